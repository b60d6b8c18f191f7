/- Texts of this proof, joined. -/
import Derived.Test.YtlmcofjcpadmiaaGreatDax
import Derived.Test.YtlmcofjcpadmiaaGreatDay
set_option linter.unusedVariables false
set_option linter.unusedSimpArgs false

/- types: contexts: the program -/
set_option maxRecDepth 4000
namespace Go.Proofs.YtlmcofjcpadmiaaGreat
open Go Go.RowKit Go.V

theorem qch (c:K) (k:Int):Mon c (kindK c k).1:=by
 unfold kindK
 split
 ·exact qcu c
 ·exact qe2 c 5
theorem qni {c:K} {k:Int} (h:(kindK c k).2 = true):c.err = 0∧(qs c).kind = k:=by
 unfold kindK at h
 split at h
 ·rename_i h1
  simp only [Bool.and_eq_true,decide_eq_true_eq] at h1
  exact h1
 ·cases h
theorem qym {c:K} {k:Int} (h:(kindK c k).2 = true):kindK c k = (qi c,true)∧qi7 c k = qs c:=by
 obtain ⟨h1,h2⟩:=qni h
 exact ⟨qsr h1 h2,qxp h1 h2⟩
def qsi (c:K):Bool:=!decide ((qj7 c).2 = 0) && (!decide ((qj7 c).2 = 5) || decide ((qs c).kind = 0))
theorem q2q (c:K) (hk:c.ok):qbt Tryz.prog 181 (curE c) (curE c) [.ptr 0 0] (.bool (qsi c)):=by
 refine qj c0eb 1 (by simp) (by simp) ?_
 repeat' (first | refine vs_ ?_ | ((first | refine vr_ ?_ | refine qcb8 hk ?_ | refine qbq ?_ | (refine cs_ ?_ ?_<;>intro hc) | refine cj_ ?_ | fail)<;>(try refine ev_ ?_)) | with_reducible exact ti_)
 all_goals (unfold qsi;simp_all)
theorem qb34 {c:K} {L:List Ent} {Q:List Ent->VO->Prop} (hk:c.ok) (hq:Q (curE c :: L) (.val (.bool (qsi c)))):VApp Tryz.prog (curE c :: L) (.fn 181 [] []) [.ptr 0 0] Q:=qbu (q2q c hk) (qp _ _) (qp _ _) rfl rfl fun _=>hq
def qsa (t:T) (n:N):N:=.mk 3 t.pos 0 t.text [n]
def qbj (rec:K->K×Option N) (c:K):K×Option N :=
 if (kindK c 2).2 = true then ((qbv rec (kindK c 2).1).1,(qbv rec (kindK c 2).1).2.map (qsa (qi7 c 2)))
 else ((kindK c 2).1,none)
theorem q02 {c:K} {L:List Ent} {t:T} {n:N} {b:Bool} {Q:List Ent->VO->Prop} (hq:Q (curE c :: L) (.val (resP (qlr (qsa t n) b)))) :
 VApp Tryz.prog (curE c :: L) (.fn 147 [] []) [.ptr 0 0,.agg [.int .i64 3,.int .i64 t.pos,.int .i64 0,.str t.text,.sl 5 [enc n]],.bool b] Q:=by
 have h:=qug (n:=qsa t n) hq
 simpa only [qsa,enc,encs] using h
theorem q7m {r:Option N} {t:T}:qlr (qsa t (r.getD N0)) r.isSome = r.map (qsa t):=qsn
section
variable {rec:K->K×Option N} {b:Nat} (hm:∀ c,Mon c (rec c).1) (ih:∀ c,c.good->rest c < b->qbt Tryz.prog 93 (curE c) (curE (rec c).1) [.ptr 0 0] (resP (rec c).2))
include hm ih
theorem qnt (c:K) (hg:c.good) (hr:rest c≤b):qbt Tryz.prog 182 (curE c) (curE (qbj rec c).1) [.ptr 0 0] (resP (qbj rec c).2):=by
 have g1:(kindK c 2).1.good:=(qch c 2).1 hg
 have hr1:rest (kindK c 2).1≤b:=by have:=(qch c 2).2.1;omega
 refine qj c0ec 1 (by simp) (by simp) ?_
 repeat' (first | refine vs_ ?_ | ((first | refine vr_ ?_ | refine qcz hg.ok ?_ | refine qb7 (qhg hm ih _ g1 hr1) rfl ?_ | refine q02 ?_ | (refine cs_ ?_ ?_<;>intro hc) | refine cj_ ?_ | fail)<;>(try refine ev_ ?_)) | with_reducible exact ti_)
 all_goals (try simp only [q7m])
 all_goals (unfold qbj;simp only [*,qdf,Int.reduceEq,if_true,if_false,reduceIte,Bool.false_eq_true,Option.getD_none,Option.getD_some,Option.isSome_none,Option.isSome_some,and_self,true_and,and_true];try rfl)
end
set_option maxRecDepth 4000

def qej (rec:K->K×Option N) (many:Bool):Nat->K->List N->K×Option (List N)
 | 0,c,_=>(c,none)
 | f + 1, c, acc =>
   if (qbj rec c).2.isSome = true then
    if (many && (qn (qbj rec c).1 [44]).2) = true then qej rec many f (qn (qbj rec c).1 [44]).1 (acc ++ [(qbj rec c).2.getD N0])
    else ((qbj rec c).1,some (acc ++ [(qbj rec c).2.getD N0]))
   else ((qbj rec c).1,none)
def qff (many:Bool) (r:K×Option (List N)):K×Option (List N) :=
 if r.2.isSome = true then
  if many = true then
   if (qr r.1 [41]).2 = true then ((qr (qr r.1 [41]).1 [61,62]).1,if (qr (qr r.1 [41]).1 [61,62]).2 = true then r.2 else none)
   else ((qr r.1 [41]).1,none)
  else ((qr r.1 [61,62]).1,if (qr r.1 [61,62]).2 = true then r.2 else none)
 else (r.1,none)
def qga (rec:K->K×Option N) (c:K):K×Option (List N) :=
 if ((qn c [40]).2 && isK (qn c [40]).1 [41]) = true then ((qn c [40]).1,some []) else qej rec (qn c [40]).2 (rest (qn c [40]).1 + 1) (qn c [40]).1 []
def qw (rec:K->K×Option N) (c:K):K×Option (List N) :=
 if qk3 c [61,62] = true then qff (qn c [40]).2 (qga rec c)
 else (c,if qsi c = true then none else some [])
section
variable {rec:K->K×Option N} (hm:∀ c,Mon c (rec c).1)
include hm
theorem qgf (c:K):Mon c (qbj rec c).1:=by
 unfold qbj
 split
 ·exact (qch c 2).trans (qdx hm _)
 ·exact qch c 2
theorem qmf {c:K} (h:(qbj rec c).2.isSome = true):rest (qbj rec c).1 < rest c:=by
 unfold qbj at h ⊢
 split at h
 ·rename_i h1
  rw [if_pos h1]
  have h2:=(qch c 2).2.1
  have h3:=qdv hm (c:=(kindK c 2).1) (by simpa using h)
  simp only;omega
 ·cases h
theorem qq1 (many:Bool):∀ (f:Nat) (c:K) (acc:List N),Mon c (qej rec many f c acc).1
 | 0,c,acc=>Mon.refl c
 | f + 1, c, acc => by
   rw [qej]
   split
   ·split
    ·exact ((qgf hm c).trans (qv _ _)).trans (qq1 many f _ _)
    ·exact qgf hm c
   ·exact qgf hm c
theorem q2h (c:K):Mon c (qga rec c).1:=by
 unfold qga
 split
 ·exact qv c _
 ·exact (qv c _).trans (qq1 hm _ _ _ _)
theorem qe9 (c:K):Mon c (qw rec c).1:=by
 unfold qw qff
 have h:=q2h hm c
 split
 ·split
  ·split
   ·split
    ·exact (h.trans (ql _ _)).trans (ql _ _)
    ·exact h.trans (ql _ _)
   ·exact h.trans (ql _ _)
  ·exact h
 ·exact Mon.refl c
end
def qtb (p:Nat) (r:Option (List N)):AV:=.tup [accV p (encs (r.getD [])),.bool r.isSome]
def qhd (rec:K->K×Option N) (c:K):Prop:=VCalls Tryz.prog 146 [curE c] [.ptr 0 0] fun H' o=>H' = curE (qw rec c).1 :: accE 5 (encs ((qw rec c).2.getD []))∧o = .val (qtb 1 (qw rec c).2)
def q5y (many:Bool) (x:Bool×Nat×K×List N):AF×List Ent :=
 (⟨[(0,.ptr 0 0),(4,accV 1 (encs x.2.2.2)),(5,.bool many),(6,.bool x.1)],[]⟩,curE x.2.2.1 :: accE 5 (encs x.2.2.2))
section
variable {rec:K->K×Option N} {b:Nat} (hm:∀ c,Mon c (rec c).1) (ih:∀ c,c.good->rest c < b->qbt Tryz.prog 93 (curE c) (curE (rec c).1) [.ptr 0 0] (resP (rec c).2))
include hm ih
theorem qoo (c:K) (hg:c.good) (hr:rest c≤b):qhd rec c:=by
 unfold qhd
 obtain ⟨kk,hk1,hk2,hk0⟩:∃ k:Nat,((qw rec c).2.getD [] = []->k = 1)∧((qw rec c).2.getD []≠[]->k = 2)∧1≤k:=by
  by_cases h:(qw rec c).2.getD [] = []
  ·exact ⟨1,fun _=>rfl,fun g=>absurd h g,by omega⟩
  ·exact ⟨2,fun g=>absurd g h,fun _=>rfl,by omega⟩
 refine qdd c0ea kk (by simpa using hk0) (by simp) ?_
 have g1:(qn c [40]).1.good:=(qv c _).1 hg
 have hr1:rest (qn c [40]).1≤b:=by have:=(qv c [40]).2.1;omega
 by_cases ha:qk3 c [61,62] = true
 ·have hpa:qw rec c = qff (qn c [40]).2 (qga rec c):=by rw [qw,if_pos ha]
  rw [hpa] at hk1 hk2 ⊢
  clear hpa
  unfold qga at hk1 hk2 ⊢
  generalize htg:(if ((qn c [40]).2 && isK (qn c [40]).1 [41]) = true then ((qn c [40]).1,some []) else qej rec (qn c [40]).2 (rest (qn c [40]).1 + 1) (qn c [40]).1 []) = tg at hk1 hk2 ⊢
  generalize hd0:(qn c [40]).1 = d0 at *
  generalize hmn:(qn c [40]).2 = many at *
  have h0t:(!(many && isK d0 [41])) = true->qej rec many (rest d0 + 1) d0 [] = tg:=fun h=>by
   rw [Bool.not_eq_true'] at h
   rw [← htg,if_neg (by rw [h];simp)]
  have h0f:(!(many && isK d0 [41])) = false->tg = (d0,some []):=fun h=>by
   rw [Bool.not_eq_false'] at h
   rw [← htg,if_pos h]
  clear htg
  obtain ⟨mm,hmm⟩:∃ mm,mm = many:=⟨_,rfl⟩
  cases many<;>(
   repeat' (first | refine vs_ ?_ | ((first | refine vr_ ?_ | fail)<;>(try simp only [ha,hd0,hmn,go_sem,↓reduceIte])) | ((first | (refine cs_ ?_ ?_<;>intro hc) | refine cj_ ?_ | fail | refine q4n hg.ok hg.2.1 ?_ | refine qdp hg.ok ?_ | refine a_Is ?_)<;>(try refine ev_ ?_)) | with_reducible exact ti_)
   refine qcc (S:=Bool×Nat×K×List N) (fun x=>x.2.2.1.good∧rest x.2.2.1≤b∧(x.1 = true->qej rec mm x.2.1 x.2.2.1 x.2.2.2 = tg∧rest x.2.2.1 < x.2.1)∧(x.1 = false->tg = (x.2.2.1,some x.2.2.2))∧x.2.2.2.length + rest x.2.2.1≤1048577)
    (q5y mm) (fun x=>if x.1 = true then rest x.2.2.1 + 1 else 0) ?_ ?_
   ·refine qbl (!(mm && isK d0 [41]),rest d0 + 1,d0,[]) [0] ⟨g1,hr1,fun h=>⟨by rw [hmm];exact h0t (by simp only [hmm] at h;exact h),Nat.lt_succ_self _⟩,fun h=>h0f (by simp only [hmm] at h;exact h),?_⟩ rfl (by simp) ?_ ?_ ?_
    ·have h9:=g1.rest
     unfold rest
     simp only [List.length_nil]
     omega
    all_goals simp only [q5y,encs,qbb,qbc,hmm,Bool.false_and,Bool.true_and,Bool.not_false]
    all_goals (refine ev_ ?_;(try with_reducible exact ti_))
   ·rintro ⟨more,fu,d,acc⟩ ⟨i1,i2,i3,i4,i5⟩
    simp only at i1 i2 i3 i4 i5
    unfold q5y
    have hcap:qec (acc.length + 1) 64:=capN (by omega)
    cases more with
    | false =>
      have i4:=i4 rfl
      subst i4
      clear i3
      by_cases hE:(qff mm (d,some acc)).2.getD [] = []
      ·simp only [hmm] at hE
       obtain rfl:=hk1 hE
       by_cases h0:acc = []
       ·subst h0
        simp only [encs,qbb,qbc,hmm]
        repeat' (first | refine vs_ ?_ | ((first | refine vr_ ?_ | fail)<;>(try simp only [hmm,go_sem,↓reduceIte])) | ((first | (refine cs_ ?_ ?_<;>intro hc) | refine cj_ ?_ | fail | refine qbz i1.ok ?_ | refine qbz ((ql d _).1 i1).ok ?_)<;>(try refine ev_ ?_)) | with_reducible exact ti_)
        all_goals (unfold qff;simp only [*,qtb,encs,qbb,qbc,if_true,if_false,reduceIte,Bool.false_eq_true,Option.isSome_some,Option.isSome_none,Option.getD_some,Option.getD_none,and_self,true_and,and_true,Bool.true_and,Bool.false_and,not_true_eq_false])
       ·have hne:=q9 h0
        simp only [qbi hne,qbh hne,q8,hmm]
        repeat' (first | refine vs_ ?_ | ((first | refine vr_ ?_ | fail)<;>(try simp only [hmm,go_sem,↓reduceIte])) | ((first | (refine cs_ ?_ ?_<;>intro hc) | refine cj_ ?_ | fail | refine qbz i1.ok ?_ | refine qbz ((ql d _).1 i1).ok ?_)<;>(try refine ev_ ?_)) | with_reducible exact ti_)
        all_goals first | (exfalso;unfold qff at hE;simp only [*,qtb,encs,qbb,qbc,if_true,if_false,reduceIte,Bool.false_eq_true,Option.isSome_some,Option.isSome_none,Option.getD_some,Option.getD_none,and_self,true_and,and_true,Bool.true_and,Bool.false_and,not_true_eq_false] at hE;done) | (unfold qff;simp only [*,qtb,encs,qbb,qbc,if_true,if_false,reduceIte,Bool.false_eq_true,Option.isSome_some,Option.isSome_none,Option.getD_some,Option.getD_none,and_self,true_and,and_true,Bool.true_and,Bool.false_and,not_true_eq_false])
      ·simp only [hmm] at hE
       obtain rfl:=hk2 hE
       have h0:¬ acc = []:=by
        intro h
        subst h
        apply hE
        unfold qff
        repeat' split
        all_goals rfl
       have hne:=q9 h0
       simp only [qbi hne,qbh hne,q8,hmm]
       repeat' (first | refine vs_ ?_ | ((first | refine vr_ ?_ | fail)<;>(try simp only [hmm,go_sem,↓reduceIte])) | ((first | (refine cs_ ?_ ?_<;>intro hc) | refine cj_ ?_ | fail | refine qbz i1.ok ?_ | refine qbz ((ql d _).1 i1).ok ?_)<;>(try refine ev_ ?_)) | with_reducible exact ti_)
       all_goals first | (exfalso;unfold qff at hE;simp only [*,qtb,encs,qbb,qbc,if_true,if_false,reduceIte,Bool.false_eq_true,Option.isSome_some,Option.isSome_none,Option.getD_some,Option.getD_none,and_self,true_and,and_true,Bool.true_and,Bool.false_and,not_true_eq_false] at hE;done) | (unfold qff;simp only [*,qtb,encs,qbb,qbc,if_true,if_false,reduceIte,Bool.false_eq_true,Option.isSome_some,Option.isSome_none,Option.getD_some,Option.getD_none,and_self,true_and,and_true,Bool.true_and,Bool.false_and,not_true_eq_false];rw [qbh hne,qbi hne,q8];exact ⟨rfl,rfl⟩)
    | true =>
      have i6:=(i3 rfl).2
      replace i3:=(i3 rfl).1
      clear i4
      obtain ⟨fu,rfl⟩:∃ k,fu = k + 1:=⟨fu - 1,by omega⟩
      rw [qej] at i3
      have j1:(qbj rec d).1.good:=(qgf hm d).1 i1
      have j2:rest (qbj rec d).1≤rest d:=(qgf hm d).2.1
      have j3:(qn (qbj rec d).1 [44]).1.good:=(qv _ _).1 j1
      have j4:=(qv (qbj rec d).1 [44]).2.1
      by_cases hs:(qbj rec d).2.isSome = true
      ·rw [if_pos hs] at i3
       have hlt:=qmf hm hs
       obtain ⟨d',hd',k1,k2,k3,k4⟩:∃ d',d' = (if mm = true then (qn (qbj rec d).1 [44]).1 else (qbj rec d).1)∧d'.good∧rest d'≤rest (qbj rec d).1∧((mm && (qn (qbj rec d).1 [44]).2) = true->qej rec mm fu d' (acc ++ [(qbj rec d).2.getD N0]) = tg)∧((mm && (qn (qbj rec d).1 [44]).2) = false->tg = (d',some (acc ++ [(qbj rec d).2.getD N0]))):=by
        refine ⟨_,rfl,?_,?_,fun h=>?_,fun h=>?_⟩
        ·cases mm
         ·exact j1
         ·exact j3
        ·cases mm
         ·exact Nat.le_refl _
         ·exact j4
        ·rw [if_pos h] at i3
         rw [if_pos (by simp only [Bool.and_eq_true] at h;exact h.1)]
         exact i3
        ·rw [if_neg (by rw [h];simp)] at i3
         rw [← i3]
         clear hmm
         cases mm
         ·rfl
         ·rw [Bool.true_and] at h
          rw [if_pos rfl,qda h]
       by_cases h0:acc = []
       ·subst h0
        simp only [encs,qbb,qbc,hmm]
        repeat' (first | refine vs_ ?_ | ((first | refine vr_ ?_ | fail)<;>(try simp only [hmm,hs,go_sem,↓reduceIte])) | ((first | (refine cs_ ?_ ?_<;>intro hc) | refine cj_ ?_ | fail | refine qb7 (qnt hm ih d i1 i2) rfl ?_ | refine qdp j1.ok ?_)<;>(try refine ev_ ?_)) | with_reducible exact ti_)
        ·refine qbl (mm && (qn (qbj rec d).1 [44]).2,fu,d',[] ++ [(qbj rec d).2.getD N0]) [0,2] ⟨⟨k1,by simp only;omega,fun h=>⟨by first | exact k3 h | (have:=k3 h;simpa only [hmm] using this),by simp only;omega⟩,fun h=>k4 h,?_⟩,?_⟩ rfl (by simp) ?_ ?_ ?_
         ·simp only [List.length_append,List.length_cons,List.length_nil];omega
         ·simp only;split<;>omega
         all_goals simp only [hd',hmm,if_true,if_false,reduceIte,Bool.false_eq_true,Bool.true_and,Bool.false_and,q5y,← qh,qfe,qfc,List.nil_append,encs,qgo,qgv]
         all_goals (refine ev_ ?_;(try with_reducible exact ti_))
       ·have hne:=q9 h0
        simp only [qbi hne,qbh hne,q8,hmm]
        repeat' (first | refine vs_ ?_ | ((first | refine vr_ ?_ | fail)<;>(try simp only [hmm,hs,go_sem,↓reduceIte])) | ((first | (refine cs_ ?_ ?_<;>intro hc) | refine cj_ ?_ | fail | refine qb7 (qnt hm ih d i1 i2) rfl ?_ | refine qdp j1.ok ?_)<;>(try refine ev_ ?_)) | with_reducible exact ti_)
        ·refine qbl (mm && (qn (qbj rec d).1 [44]).2,fu,d',acc ++ [(qbj rec d).2.getD N0]) [0,3] ⟨⟨k1,by simp only;omega,fun h=>⟨by first | exact k3 h | (have:=k3 h;simpa only [hmm] using this),by simp only;omega⟩,fun h=>k4 h,?_⟩,?_⟩ rfl (by simp) ?_ ?_ ?_
         ·simp only [List.length_append,List.length_cons,List.length_nil];omega
         ·simp only;split<;>omega
         all_goals simp only [hd',hmm,if_true,if_false,reduceIte,Bool.false_eq_true,Bool.true_and,Bool.false_and,q5y,← qh,qfe,qfc,List.nil_append,encs,qgo,qgv]
         all_goals (refine ev_ ?_;(try with_reducible exact ti_))
         all_goals (try (rw [qh,qu,qbf];exact ⟨rfl,rfl⟩))
      ·have hs:(qbj rec d).2.isSome = false:=by simpa using hs
       rw [if_neg (by rw [hs];simp)] at i3
       subst i3
       obtain rfl:=hk1 rfl
       by_cases h0:acc = []
       ·subst h0
        simp only [encs,qbb,qbc,hmm]
        repeat' (first | refine vs_ ?_ | ((first | refine vr_ ?_ | fail)<;>(try simp only [hmm,hs,go_sem,↓reduceIte])) | ((first | (refine cs_ ?_ ?_<;>intro hc) | refine cj_ ?_ | fail | refine qb7 (qnt hm ih d i1 i2) rfl ?_ | refine qdp j1.ok ?_)<;>(try refine ev_ ?_)) | with_reducible exact ti_)
        exact ⟨rfl,rfl⟩
       ·have hne:=q9 h0
        simp only [qbi hne,qbh hne,q8,hmm]
        repeat' (first | refine vs_ ?_ | ((first | refine vr_ ?_ | fail)<;>(try simp only [hmm,hs,go_sem,↓reduceIte])) | ((first | (refine cs_ ?_ ?_<;>intro hc) | refine cj_ ?_ | fail | refine qb7 (qnt hm ih d i1 i2) rfl ?_ | refine qdp j1.ok ?_)<;>(try refine ev_ ?_)) | with_reducible exact ti_)
        exact ⟨rfl,rfl⟩
   )
 ·have hpa:qw rec c = (c,if qsi c = true then none else some []):=by rw [qw,if_neg ha]
  rw [hpa] at hk1 hk2 ⊢
  obtain rfl:=hk1 (by simp only;split<;>rfl)
  repeat' (first | refine vs_ ?_ | ((first | refine vr_ ?_ | fail)<;>(try simp only [ha,go_sem,↓reduceIte])) | ((first | (refine cs_ ?_ ?_<;>intro hc) | refine cj_ ?_ | fail | refine q4n hg.ok hg.2.1 ?_ | refine qb34 hg.ok ?_)<;>(try refine ev_ ?_)) | with_reducible exact ti_)
  cases qsi c<;>exact ⟨rfl,rfl⟩
end
set_option maxRecDepth 4000

theorem ql9 {rec:K->K×Option N} {c:K} (h:qhd rec c) (h0:(qw rec c).2.getD [] = []) {L:List Ent} {Q:List Ent->VO->Prop} (hq:Q (curE (qw rec c).1 :: L) (.val (.tup [.nils,.bool (qw rec c).2.isSome]))) :
 VApp Tryz.prog (curE c :: L) (.fn 146 [] []) [.ptr 0 0] Q :=
 qbu (r:=.tup [.nils,.bool (qw rec c).2.isSome]) (e':=curE (qw rec c).1) (by
  unfold qhd at h
  rw [h0] at h
  unfold qbt
  have hr:qtb 1 (qw rec c).2 = .tup [.nils,.bool (qw rec c).2.isSome]:=by rw [qtb,h0];rfl
  rw [hr] at h
  exact h) (qp _ _) (qp _ _) rfl rfl fun _=>hq
theorem qrh {rec:K->K×Option N} {c:K} (h:qhd rec c) {l:List N} (hl:(qw rec c).2 = some l) (h0:l≠[]) {L:List Ent} {Q:List Ent->VO->Prop}
 (hq:Q (curE (qw rec c).1 :: (L ++ [.app 5 (encs l)])) (.val (.tup [.row (L.length + 1) l.length,.bool true]))) :
 VApp Tryz.prog (curE c :: L) (.fn 146 [] []) [.ptr 0 0] Q :=
 qbr (first:=[]) (caps:=[]) (by
  simp only [List.nil_append,List.append_nil]
  have hne:=q9 h0
  have hs:AV.rens (sg [0]) [.ptr 0 0] = [.ptr 0 0]:=rfl
  rw [← hs]
  have ha:AV.bds 1 [.ptr 0 0] = true:=rfl
  have napp_ren:∀ σ:Nat->Nat,(Ent.app 5 (encs l)).ren σ = .app 5 (encs l):=fun σ=>Ent.ren_same (m:=0) (fun i hi=>by omega) _ (by simp [Ent.bd,qu])
  refine qe0 (H0:=[curE c]) [0] h (by simp) (by simp) rfl ?_ ha ?_
  ·intro j e2 hj
   obtain rfl:j = 0:=by have:=(List.getElem?_eq_some_iff.1 hj).1;simp at this;omega
   simp only [List.getElem?_cons_zero,Option.some.injEq] at hj
   subst hj
   exact .inr ⟨qp _ _,by rw [qcv];rfl⟩
  rintro H1 o ⟨rfl,rfl⟩
  rw [hl]
  simp only [Option.getD_some,qbh hne,qtb,qbi hne,q8,Option.isSome_some,List.length_cons,List.length_nil,List.take_succ_cons,List.take_zero,List.map_nil,qbg,List.drop_zero,List.drop_succ_cons,List.map_cons,qcv,napp_ren,VO.ren,AV.ren,AV.rens,sg',List.set_cons_zero]
  exact hq)
def qsu (p:Int) (l:List N) (t:N):N:=.mk 4 p 0 [] (l ++ [t])
def qee (f:Nat) (c:K):K×Option N :=
 if (qw (qbn f) c).2.isSome = true then ((qbn f (qw (qbn f) c).1).1,(qbn f (qw (qbn f) c).1).2.map (qsu (qs c).pos ((qw (qbn f) c).2.getD [])))
 else ((qw (qbn f) c).1,none)
theorem qrm {c:K} {L:List Ent} {p:Int} {l:List N} {t:N} {b:Bool} {Q:List Ent->VO->Prop} (hq:Q (curE c :: L) (.val (resP (qlr (qsu p l t) b)))) :
 VApp Tryz.prog (curE c :: L) (.fn 147 [] []) [.ptr 0 0,.agg [.int .i64 4,.int .i64 p,.int .i64 0,.str [],.sl 5 (encs l ++ [enc t])],.bool b] Q:=by
 have h:=qug (n:=qsu p l t) hq
 simpa only [qsu,enc,qh] using h
theorem qxk {c:K} {L:List Ent} {p:Int} {t:N} {b:Bool} {Q:List Ent->VO->Prop} (hq:Q (curE c :: L) (.val (resP (qlr (qsu p [] t) b)))) :
 VApp Tryz.prog (curE c :: L) (.fn 147 [] []) [.ptr 0 0,.agg [.int .i64 4,.int .i64 p,.int .i64 0,.str [],.sl 5 [enc t]],.bool b] Q:=qrm (l:=[]) hq
theorem qt0 {r:Option N} {p:Int} {l:List N}:qlr (qsu p l (r.getD N0)) r.isSome = r.map (qsu p l):=qsn
theorem qwk {rec:K->K×Option N} (hm:∀ c,Mon c (rec c).1) (many:Bool):∀ (f:Nat) (c:K) (acc l:List N),(qej rec many f c acc).2 = some l->l.length≤acc.length + rest c
 | 0,c,acc,l=>fun h=>by cases h
 | f + 1, c, acc, l => fun h => by
   rw [qej] at h
   split at h
   ·rename_i hs
    have h1:=qmf hm hs
    split at h
    ·have h2:=qwk hm many f _ _ _ h
     have h3:=(qv (qbj rec c).1 [44]).2.1
     simp only [List.length_append,List.length_cons,List.length_nil] at h2
     omega
    ·cases h
     simp only [List.length_append,List.length_cons,List.length_nil]
     omega
   ·cases h
theorem qj9 {m:Bool} {r:K×Option (List N)} {l:List N} (h:(qff m r).2 = some l):r.2 = some l:=by
 unfold qff at h
 repeat' split at h
 all_goals first | exact h | cases h
theorem qmc {rec:K->K×Option N} (hm:∀ c,Mon c (rec c).1) {c:K} {l:List N} (h:(qw rec c).2 = some l):l.length≤rest c:=by
 unfold qw at h
 split at h
 ·have h:=qj9 h
  unfold qga at h
  split at h
  ·cases h;exact Nat.zero_le _
  ·have h1:=qwk hm _ _ _ _ _ h
   have h2:=(qv c [40]).2.1
   simp only [List.length_nil] at h1
   omega
 ·simp only at h
  split at h
  ·cases h
  ·cases h;exact Nat.zero_le _
theorem qry (f:Nat) (c:K) (hg:c.good) (hr:rest c < f):qbt Tryz.prog 92 (curE c) (curE (qee f c).1) [.ptr 0 0] (resP (qee f c).2):=by
 have hm:=qcx f
 have hP:=qoo hm (qqs f) c hg (by omega)
 have g1:(qw (qbn f) c).1.good:=(qe9 hm c).1 hg
 have hr1:rest (qw (qbn f) c).1 < f:=by have:=(qe9 hm c).2.1;omega
 refine qj c0dz 1 (by simp) (by simp) ?_
 unfold qee
 cases ho:(qw (qbn f) c).2 with
 | none =>
   have h0:(qw (qbn f) c).2.getD [] = []:=by rw [ho];rfl
   repeat' (first | refine vs_ ?_ | ((first | refine vr_ ?_ | fail)<;>(try simp only [ho,Option.isSome_none,go_sem,↓reduceIte])) | ((first | (refine cs_ ?_ ?_<;>intro hc) | refine cj_ ?_ | fail | refine qbq ?_ | refine ql9 hP h0 ?_)<;>(try refine ev_ ?_)) | with_reducible exact ti_)
   rw [qdf];rfl
 | some l =>
   have hlen:=qmc hm ho
   have hlen2:=hg.rest
   by_cases h0:l = []
   ·subst h0
    have h0:(qw (qbn f) c).2.getD [] = []:=by rw [ho];rfl
    have hcap:qec 1 64:=capN (by omega)
    repeat' (first | refine vs_ ?_ | ((first | refine vr_ ?_ | fail)<;>(try simp only [ho,Option.isSome_some,go_sem,↓reduceIte])) | ((first | (refine cs_ ?_ ?_<;>intro hc) | refine cj_ ?_ | fail | refine qbq ?_ | refine ql9 hP h0 ?_ | refine qb7 (qqs f _ g1 hr1) rfl ?_ | refine qxk ?_)<;>(try refine ev_ ?_)) | with_reducible exact ti_)
    rw [qt0];rfl
   ·have hcap:qec (l.length + 1) 64:=capN (by unfold rest at hlen;omega)
    repeat' (first | refine vs_ ?_ | ((first | refine vr_ ?_ | fail)<;>(try simp only [ho,Option.isSome_some,go_sem,↓reduceIte])) | ((first | (refine cs_ ?_ ?_<;>intro hc) | refine cj_ ?_ | fail | refine qbq ?_ | refine qrh hP ho h0 ?_ | refine qb7 (qqs f _ g1 hr1) rfl ?_ | refine qrm ?_)<;>(try refine ev_ ?_)) | with_reducible exact ti_)
    rw [qt0];rfl

theorem q4a {P:Program} {f:FuncId} {e e':Ent} {L:List Ent} {first args0 args:List AV} {r:AV} {Q:List Ent->VO->Prop} (k:Nat) (h:qbt P f e e' args0 r) (hk:L[k]? = some e) (hb:e.bd 0 = true) (hb':e'.bd 0 = true) (ha:AV.bds 1 args0 = true) (hr:r.bd 0 = true) (hs:AV.rens (sg [k]) args0 = first ++ args) (hq:r.wf->Q (L.set k e') (.val r)) :
 VApp P L (.fn f first []) args Q :=
 qbr (first:=first) (caps:=[]) (by
  simp only [List.append_nil]
  rw [← hs]
  have hlt:k < L.length:=(List.getElem?_eq_some_iff.1 hk).1
  refine qe0 (H0:=[e]) [k] (h.mono' (Q':=fun H' o=>(H' = [e']∧o = .val r)∧r.wf) fun H' o hw ho=>⟨ho,by have:=ho.2;subst this;exact hw⟩) (by simp) (by simpa using hlt) rfl ?_ ha ?_
  ·intro j e2 hj
   obtain rfl:j = 0:=by have:=(List.getElem?_eq_some_iff.1 hj).1;simp at this;omega
   simp only [List.getElem?_cons_zero,Option.some.injEq] at hj
   subst hj
   exact .inr ⟨Ent.bd_le (Nat.zero_le _) _ hb,by rw [Ent.ren_same (m:=0) (fun i hi=>by omega) _ hb];exact hk⟩
  ·rintro H1 o ⟨⟨rfl,rfl⟩,hw⟩
   have h1:e'.ren (sg' [k] L.length) = e':=Ent.ren_same (m:=0) (fun i hi=>by omega) _ hb'
   have h2:r.ren (sg' [k] L.length) = r:=ren_same (m:=0) (fun i hi=>by omega) _ hr
   simp only [List.length_cons,List.length_nil,List.take_succ_cons,List.take_zero,List.map_cons,List.map_nil,qbg,h1,VO.ren,h2,List.drop_succ_cons,List.drop_nil,List.append_nil]
   exact hq hw)

/-! The size of what is read. -/
theorem qd2:∀ (a b:List N),szs (a ++ b) = szs a + szs b
 | [],b=>by simp [szs]
 | x :: a,b=>by rw [List.cons_append,szs,szs,qd2 a b];omega
theorem qx8 (c:K) (k:Int) (ks:List N):sz (qkc c k ks) = szs ks + 1:=by rw [qeh];rfl
section
variable {rec:K->K×Option N} (hm:∀ c,Mon c (rec c).1) (ih:∀ c n,(rec c).2 = some n->sz n + rest (rec c).1≤rest c)
include hm ih
omit hm in
theorem qjk {c:K} {n:N} (h:(qbv rec c).2 = some n):sz n + rest (qbv rec c).1≤rest c:=by
 unfold qbv at h ⊢
 split at h
 ·rename_i h1
  rw [if_pos h1]
  cases h
  have:=qbd (c:=c) (by omega)
  rw [qx8];simp only [szs];omega
 ·rename_i h1
  rw [if_neg h1]
  split at h
  ·rename_i h2
   rw [if_pos h2]
   cases h
   have:=qbd (c:=c) (by omega)
   rw [qx8];simp only [szs];omega
  ·rename_i h2
   rw [if_neg h2]
   split at h
   ·rename_i h3
    rw [if_pos h3]
    split at h
    ·rename_i h4
     rw [if_pos h4]
     have hp:=qbd (c:=(qd c).1) (by rw [qd0 h4];exact qdy h3)
     have h0:=(q7 c).2.1
     split at h
     ·rename_i h5
      rw [if_pos h5]
      simp only at h ⊢
      split at h
      ·have h6:=ih _ _ h
       have h7:=(ql (rec (qi (qd c).1)).1 [41]).2.1
       have h8:=(qb3 (qr (rec (qi (qd c).1)).1 [41]).1).2.1
       omega
      ·cases h
     ·cases h
    ·cases h
   ·cases h
omit hm in
theorem qro:∀ (f:Nat) (c:K) (acc l:List N),(qdn rec f c acc).2 = some l->szs l + rest (qdn rec f c acc).1≤szs acc + rest c
 | 0,c,acc,l=>fun h=>by cases h
 | f + 1, c, acc, l => fun h => by
   rw [qdn] at h ⊢
   split at h
   ·rename_i h1
    rw [if_pos h1]
    split at h
    ·rename_i h2
     rw [if_pos h2]
     obtain ⟨n,hn⟩:=Option.isSome_iff_exists.1 h2
     have h3:=qro f _ _ _ h
     have h4:=qjk ih hn
     rw [qd2,hn] at h3
     simp only [Option.getD_some,szs] at h3
     rw [hn]
     simp only [Option.getD_some]
     omega
    ·cases h
   ·rename_i h1
    rw [if_neg h1]
    cases h
    exact Nat.le_refl _
omit hm in
theorem qvj {c:K} {n:N} (h:(qb5 rec c).2 = some n):sz n + rest (qb5 rec c).1≤rest c:=by
 unfold qb5 at h ⊢
 split at h
 ·rename_i h1
  rw [if_pos h1]
  obtain ⟨l,hl,rfl⟩:=Option.map_eq_some_iff.1 h
  have h2:=qro ih _ _ _ _ hl
  have h3:=qbd (c:=c) (by omega)
  rw [qx8]
  simp only [szs] at h2 ⊢
  omega
 ·rename_i h1
  rw [if_neg h1]
  exact qjk ih h
omit hm in
theorem q17 {c:K} {n:N} (h:(qbj rec c).2 = some n):sz n + rest (qbj rec c).1≤rest c:=by
 unfold qbj at h ⊢
 split at h
 ·rename_i h1
  rw [if_pos h1]
  obtain ⟨m,hk,rfl⟩:=Option.map_eq_some_iff.1 h
  have h2:=qjk ih hk
  obtain ⟨e1,e2⟩:=qni h1
  rw [(qym h1).1] at h2 ⊢
  have h3:=qbd (c:=c) (by omega)
  have:sz (qsa (qi7 c 2) m) = sz m + 1:=by rw [qeh];simp [qsa,N.kids,szs]
  simp only at h2 ⊢
  omega
 ·cases h
omit hm in
theorem qpp (many:Bool):∀ (f:Nat) (c:K) (acc l:List N),(qej rec many f c acc).2 = some l->szs l + rest (qej rec many f c acc).1≤szs acc + rest c
 | 0,c,acc,l=>fun h=>by cases h
 | f + 1, c, acc, l => fun h => by
   rw [qej] at h ⊢
   split at h
   ·rename_i h1
    rw [if_pos h1]
    obtain ⟨n,hn⟩:=Option.isSome_iff_exists.1 h1
    have h4:=q17 ih hn
    split at h
    ·rename_i h2
     rw [if_pos h2]
     have h3:=qpp many f _ _ _ h
     have h5:=(qv (qbj rec c).1 [44]).2.1
     rw [qd2,hn] at h3
     simp only [Option.getD_some,szs] at h3
     rw [hn]
     simp only [Option.getD_some]
     omega
    ·rename_i h2
     rw [if_neg h2]
     cases h
     rw [hn,qd2]
     simp only [Option.getD_some,szs]
     omega
   ·cases h
end
theorem qjp:∀ (f:Nat) (c:K) (n:N),(qbn f c).2 = some n->sz n + rest (qbn f c).1≤rest c
 | 0,_,_=>fun h=>by cases h
 | f + 1, c, n => fun h => by
   have ih:=qjp f
   have h0:=(q7 c).2.1
   rw [qbn] at h ⊢
   split at h
   ·rename_i h1
    rw [if_pos h1]
    split at h
    ·rename_i h2
     rw [if_pos h2]
     obtain ⟨m,hm⟩:=Option.isSome_iff_exists.1 h2
     have h3:=qvj ih hm
     split at h
     ·rename_i h4
      rw [if_pos h4]
      obtain ⟨q,hq,rfl⟩:=Option.map_eq_some_iff.1 h
      have h5:=ih _ _ hq
      have h6:=(qb3 (qbn f (qn (qb5 (qbn f) (qd c).1).1 [45,62]).1).1).2.1
      have h7:rest (qn (qb5 (qbn f) (qd c).1).1 [45,62]).1 + 1≤rest (qb5 (qbn f) (qd c).1).1:=by
       unfold qn at h4 ⊢
       split at h4
       ·rename_i h8
        rw [if_pos h8]
        have:=qbd (qdy h8)
        simp only;omega
       ·cases h4
      have:sz (qjw ((qb5 (qbn f) (qd c).1).2.getD N0) q) = sz m + sz q + 1:=by rw [qeh,hm];simp [qjw,N.kids,szs]
      simp only
      omega
     ·rename_i h4
      rw [if_neg h4]
      have h5:=(qb3 (qb5 (qbn f) (qd c).1).1).2.1
      have h6:=qvj ih h
      simp only
      omega
    ·cases h
   ·cases h
theorem qrt {f:Nat} {c:K} {n:N} (h:(qee f c).2 = some n):sz n + rest (qee f c).1≤rest c + 1:=by
 unfold qee at h ⊢
 split at h
 ·rename_i h1
  rw [if_pos h1]
  obtain ⟨l,hl⟩:=Option.isSome_iff_exists.1 h1
  obtain ⟨q,hq,rfl⟩:=Option.map_eq_some_iff.1 h
  have h2:=qjp f _ _ hq
  rw [hl]
  have h3:szs l + rest (qw (qbn f) c).1≤rest c:=by
   have hx:=hl
   unfold qw at hx ⊢
   split at hx
   ·rename_i ha
    rw [if_pos ha]
    have h5:=qj9 hx
    have h6:szs l + rest (qga (qbn f) c).1≤rest c:=by
     unfold qga at h5 ⊢
     have ht:=(qv c [40]).2.1
     split at h5
     ·rename_i hb
      rw [if_pos hb]
      cases h5
      simp only [szs];omega
     ·rename_i hb
      rw [if_neg hb]
      have:=qpp (qjp f) _ _ _ _ _ h5
      simp only [szs] at this
      omega
    have h7:rest (qff (qn c [40]).2 (qga (qbn f) c)).1≤rest (qga (qbn f) c).1:=by
     unfold qff
     split
     ·split
      ·split
       ·exact Nat.le_trans (ql _ _).2.1 (ql _ _).2.1
       ·exact (ql _ _).2.1
      ·exact (ql _ _).2.1
     ·exact Nat.le_refl _
    omega
   ·rename_i ha
    rw [if_neg ha]
    simp only at hx ⊢
    split at hx
    ·cases hx
    ·cases hx;simp only [szs];omega
  have:sz (qsu (qs c).pos l q) = szs l + sz q + 1:=by rw [qeh];simp [qsu,N.kids,qd2,szs]
  simp only [Option.getD_some]
  omega
 ·cases h
theorem qkn {l:List T} (h:l.length≤1048577):(newK l).good:=⟨Nat.zero_le _,Nat.le_trans (qhh l) h,Nat.zero_le _⟩
set_option maxRecDepth 4000

def qqz (c:K) (n:N):N×Int×Int :=
 if (qj7 c).2 = 0 then if depR n > 100 then (N0,n.pos,2) else (n,0,0) else (N0,(qj7 c).1,(qj7 c).2)
def qjt (rd:K->K×Option N) (s:List UInt8):N×Int×Int :=
 if (lexV s).2.2 = 0 then qqz (rd (newK (lexV s).1)).1 ((rd (newK (lexV s).1)).2.getD N0)
 else (N0,(lexV s).2.1,(lexV s).2.2)
def resV (r:N×Int×Int):AV:=.tup [enc r.1,.int .i64 r.2.1,.int .i64 r.2.2]
attribute [go_sem] resV lexR
theorem q3o {so:FuncId} {q:Bool} {rd:K->K×Option N} {s:List UInt8} (hs:s.length≤900000) (hrd:∀ c:K,c.good->rest c≤900001->qbt Tryz.prog so (curE c) (curE (rd c).1) [.agg [.bool q],.ptr 0 0] (resP (rd c).2))
 (hm:∀ c,Mon c (rd c).1) (hsz:∀ c n,(rd c).2 = some n->sz n≤rest c + 1):qq Tryz.prog 50 [.str s,.fn so [.agg [.bool q]] []] (resV (qjt rd s)):=by
 have g:=qkn (qeg s).1
 have g2:(rd (newK (lexV s).1)).1.good:=(hm _).1 g
 have hr:rest (newK (lexV s).1)≤900001:=by
  have h2:=qhh (lexV s).1
  have h3:=(qeg s).2
  have h4:rest (newK (lexV s).1) = (qfm (lexV s).1).length:=rfl
  omega
 have hsz':sz ((rd (newK (lexV s).1)).2.getD N0)≤1000000:=by
  cases ho:(rd (newK (lexV s).1)).2 with
  | none=>rw [Option.getD_none,qeh];simp [N0,N.kids,szs]
  | some n =>
    have h1:=hsz _ _ ho
    simp only [Option.getD_some]
    omega
 have hdp:=qlq hsz'
 refine qg c0dw (by simp) (by simp only [go_sem]) (by simp only [go_sem]) fun hw=>?_
 repeat' (first | refine vs_ ?_ | ((first | refine vr_ ?_ | refine qa (qfb s) fun _=>?_ | refine qns (qnl _ (qeg s).1) (qp _ _) (by simp only [go_sem]) ?_ | refine q4a 1 (hrd _ g hr) (by rfl) (qp _ _) (qp _ _) (by rfl) (qsx _ _) (by rfl) fun _=>?_ | refine qh7 1 (qla _ g2.ok) (by rfl) (qp _ _) (qp _ _) (by rfl) (by rfl) (by rfl) fun _=>?_ | refine qa (qio (qi0 _) (by rw [hdp])) fun _=>?_ | refine qe (qfb s) ?_ | refine qe (qio (qi0 _) (by rw [hdp])) ?_ | (refine cs_ ?_ ?_<;>intro hc) | refine cj_ ?_ | fail)<;>(try refine ev_ ?_)) | with_reducible exact ti_)
 all_goals (try rw [qdf])
 all_goals unfold qjt qqz
 all_goals (repeat' split)
 all_goals first | omega | rfl | (exfalso;omega) | simp_all [go_sem]
def qn2 (q:Bool) (c:K):K×Option N:=if q = true then qee (rest c + 2) c else qbn (rest c + 2) c
theorem qbc1 (q:Bool) (c:K) (hg:c.good) (hr:rest c≤900001):qbt Tryz.prog 49 (curE c) (curE (qn2 q c).1) [.agg [.bool q],.ptr 0 0] (resP (qn2 q c).2):=by
 refine qj c0dx 1 (by simp) (by simp) ?_
 repeat' (first | refine vs_ ?_ | ((first | refine vr_ ?_ | refine qb7 (qqs (rest c + 2) c hg (by omega)) rfl ?_ | refine qb7 (qry (rest c + 2) c hg (by omega)) rfl ?_ | (refine cs_ ?_ ?_<;>intro hc) | refine cj_ ?_ | fail)<;>(try refine ev_ ?_)) | with_reducible exact ti_)
 ·rw [qn2,if_pos rfl];exact ⟨rfl,rfl⟩
 ·rw [qn2,if_neg (by simp)];exact ⟨rfl,rfl⟩
theorem qhl (f:Nat) (c:K):Mon c (qee f c).1:=by
 have hm:=qcx f
 unfold qee
 split
 ·exact (qe9 hm c).trans (hm _)
 ·exact qe9 hm c
theorem q31 (q:Bool) (c:K):Mon c (qn2 q c).1:=by
 unfold qn2
 split
 ·exact qhl _ c
 ·exact qcx _ c
theorem qbca {q:Bool} {c:K} {n:N} (h:(qn2 q c).2 = some n):sz n≤rest c + 1:=by
 unfold qn2 at h
 split at h
 ·have:=qrt h;omega
 ·have:=qjp _ _ _ h;omega
theorem qxz (s:List UInt8) (hs:s.length≤900000):qq Tryz.prog 22 [.str s] (resV (qjt (qn2 false) s)):=by
 refine qg c0dy (by simp) (by simp only [go_sem]) (by simp only [go_sem]) fun hw=>?_
 repeat' (first | refine vs_ ?_ | ((first | refine vr_ ?_ | refine qa (q3o hs (qbc1 false) (q31 false) fun _ _ h=>qbca h) fun _=>?_ | (refine cs_ ?_ ?_<;>intro hc) | refine cj_ ?_ | fail)<;>(try refine ev_ ?_)) | with_reducible exact ti_)
set_option maxRecDepth 4000

/-! Patterns. -/
def qjs (c:K):Option N :=
 if (qs c).kind = 1 then some (.mk 11 (qs c).pos 0 (qs c).text [])
 else if (qs c).kind = 2 then some (.mk 14 (qs c).pos 0 (qs c).text [])
 else if (qs c).kind = 3 then some (.mk 13 (qs c).pos (qs c).num [] [])
 else if isK c [95] = true then some (.mk 12 (qs c).pos 0 [] [])
 else none
def begP (c:K):Bool:=(qjs c).isSome || isK c [40]
def qbp (rec:K->K×Option N) (c:K):K×Option N :=
 if (qjs c).isSome = true then (qi c,qjs c)
 else if isK c [40] = true then
  if (qd c).2 = true then
   if (rec (qi (qd c).1)).2.isSome = true then
    if (qr (rec (qi (qd c).1)).1 [41]).2 = true then (qdh (qr (rec (qi (qd c).1)).1 [41]).1,(rec (qi (qd c).1)).2)
    else ((qr (rec (qi (qd c).1)).1 [41]).1,none)
   else ((rec (qi (qd c).1)).1,none)
  else ((qd c).1,none)
 else (qev c 5,none)
def qhr (rec:K->K×Option N):Nat->K->List N->K×Option (List N)
 | 0,c,acc=>(c,none)
 | f + 1, c, acc =>
   if begP c = true then
    if (qbp rec c).2.isSome = true then qhr rec f (qbp rec c).1 (acc ++ [(qbp rec c).2.getD N0])
    else ((qbp rec c).1,none)
   else (c,some acc)
def qcg:Nat->K->K×Option N
 | 0,c=>(c,none)
 | f + 1, c =>
   if (qd c).2 = true then
    if (qs (qd c).1).kind = 2 then
     (qdh (qhr (qcg f) (rest (qd c).1 + 1) (qi (qd c).1) []).1,(qhr (qcg f) (rest (qd c).1 + 1) (qi (qd c).1) []).2.map fun ks=>.mk 14 (qs (qd c).1).pos 0 (qs (qd c).1).text ks)
    else (qdh (qbp (qcg f) (qd c).1).1,(qbp (qcg f) (qd c).1).2)
   else ((qd c).1,none)

theorem qvr {c:K} {n:N} (h:qjs c = some n):(qs c).kind≠0:=by
 unfold qjs at h
 split at h
 ·omega
 ·split at h
  ·omega
  ·split at h
   ·omega
   ·split at h
    ·exact qdy (by assumption)
    ·cases h
section
variable {rec:K->K×Option N} (hm:∀ c,Mon c (rec c).1)
include hm
theorem qjo (c:K):Mon c (qbp rec c).1:=by
 unfold qbp
 split
 ·exact qcu c
 ·split
  ·split
   ·have h1:=((q7 c).trans (qcu _)).trans (hm _)
    split
    ·split
     ·exact (h1.trans (ql _ _)).trans (qb3 _)
     ·exact h1.trans (ql _ _)
    ·exact h1
   ·exact q7 c
  ·exact qe2 c 5
theorem qvt {c:K} (h:(qbp rec c).2.isSome = true):rest (qbp rec c).1 < rest c:=by
 unfold qbp at h ⊢
 split at h
 ·rename_i hl
  rw [if_pos hl]
  obtain ⟨n,hn⟩:=Option.isSome_iff_exists.1 hl
  have:=qbd (qvr hn)
  simp only;omega
 ·rename_i hl
  rw [if_neg hl]
  split at h
  ·rename_i hk
   rw [if_pos hk]
   split at h
   ·rename_i he
    rw [if_pos he]
    have hp:=qbd (c:=(qd c).1) (by rw [qd0 he];exact qdy hk)
    have h0:=(q7 c).2.1
    have h1:=(hm (qi (qd c).1)).2.1
    split at h
    ·rename_i hr
     rw [if_pos hr]
     have h2:=(ql (rec (qi (qd c).1)).1 [41]).2.1
     split at h
     ·rename_i hw
      rw [if_pos hw]
      have h3:=(qb3 (qr (rec (qi (qd c).1)).1 [41]).1).2.1
      simp only;omega
     ·cases h
    ·cases h
   ·cases h
  ·cases h
theorem qr8:∀ (f:Nat) (c:K) (acc:List N),Mon c (qhr rec f c acc).1
 | 0,c,acc=>Mon.refl c
 | f + 1, c, acc => by
   rw [qhr]
   split
   ·split
    ·exact (qjo hm c).trans (qr8 f _ _)
    ·exact qjo hm c
   ·exact Mon.refl c
end
theorem qe8:∀ (f:Nat) (c:K),Mon c (qcg f c).1
 | 0,c=>Mon.refl c
 | f + 1, c => by
   rw [qcg]
   split
   ·split
    ·exact (((q7 c).trans (qcu _)).trans (qr8 (qe8 f) _ _ _)).trans (qb3 _)
    ·exact ((q7 c).trans (qjo (qe8 f) _)).trans (qb3 _)
   ·exact q7 c
theorem q4p (c:K):qbt Tryz.prog 153 (curE c) (curE c) [.ptr 0 0] (resP (qjs c)):=by
 refine qj c0ds 1 (by simp) (by simp) ?_
 repeat' (first | refine vs_ ?_ | ((first | refine vr_ ?_ | refine qbq ?_ | refine a_Is ?_ | (refine cs_ ?_ ?_<;>intro hc) | refine cj_ ?_ | fail)<;>(try refine ev_ ?_)) | with_reducible exact ti_)
 all_goals (unfold qjs;simp_all [enc,encs,N0])
theorem q8q {c:K} {L:List Ent} {Q:List Ent->VO->Prop} (hq:Q (curE c :: L) (.val (resP (qjs c)))):VApp Tryz.prog (curE c :: L) (.fn 153 [] []) [.ptr 0 0] Q:=qb7 (q4p c) rfl hq
theorem qxq (c:K):qbt Tryz.prog 97 (curE c) (curE c) [.ptr 0 0] (.bool (begP c)):=by
 refine qj c0dt 1 (by simp) (by simp) ?_
 repeat' (first | refine vs_ ?_ | ((first | refine vr_ ?_ | refine q8q ?_ | refine a_Is ?_ | (refine cs_ ?_ ?_<;>intro hc) | refine cj_ ?_ | fail)<;>(try refine ev_ ?_)) | with_reducible exact ti_)
 all_goals (unfold begP;simp_all)
theorem qbhp {c:K} {L:List Ent} {Q:List Ent->VO->Prop} (hq:Q (curE c :: L) (.val (.bool (begP c)))):VApp Tryz.prog (curE c :: L) (.fn 97 [] []) [.ptr 0 0] Q:=qbu (qxq c) (qp _ _) (qp _ _) rfl rfl fun _=>hq
theorem qpc {rec:K->K×Option N} {b:Nat} (hm:∀ c,Mon c (rec c).1) (ih:∀ c,c.good->rest c < b->qbt Tryz.prog 54 (curE c) (curE (rec c).1) [.ptr 0 0] (resP (rec c).2)) (c:K) (hg:c.good) (hr:rest c≤b) :
 qbt Tryz.prog 96 (curE c) (curE (qbp rec c).1) [.ptr 0 0] (resP (qbp rec c).2):=by
 have g1:(qd c).1.good:=(q7 c).1 hg
 have g2:(qi (qd c).1).good:=(qcu _).1 g1
 have g3:(rec (qi (qd c).1)).1.good:=(hm _).1 g2
 have g4:(qr (rec (qi (qd c).1)).1 [41]).1.good:=(ql _ _).1 g3
 have hrr:isK c [40] = true->(qd c).2 = true->rest (qi (qd c).1) < b:=fun h1 h2=>by
  have:=qbd (c:=(qd c).1) (by rw [qd0 h2];exact qdy h1)
  have:=(q7 c).2.1
  omega
 refine qj c0du 1 (by simp) (by simp) ?_
 repeat' (first | refine vs_ ?_ | ((first | refine vr_ ?_ | refine q8q ?_ | refine a_Is ?_ | refine qq7 ?_ | refine qg2 ?_ | refine qjb hg.ok ?_ | refine qjb g1.ok ?_ | refine qb7 (ih _ g2 (hrr (by assumption) (by assumption))) rfl ?_ | refine qbz g3.ok ?_ | refine qet g4.2.2 ?_ | (refine cs_ ?_ ?_<;>intro hc) | refine cj_ ?_ | fail)<;>(try refine ev_ ?_)) | with_reducible exact ti_)
 all_goals (unfold qbp;simp only [*,qdf,Int.reduceEq,if_true,if_false,reduceIte,Bool.false_eq_true,Option.getD_none,Option.getD_some,Option.isSome_none,Option.isSome_some,and_self,true_and,and_true];try rfl)
def conZ (c:K):AV:=.tup [.agg [.int .i64 14,.int .i64 (qs c).pos,.int .i64 0,.str (qs c).text,.nils],.bool true]
attribute [go_sem] conZ
theorem q38 (k:Nat) (c:K):(conZ c).bd k = true:=rfl
theorem q15 (c:K) (hc:(qs c).kind = 2):qbt Tryz.prog 153 (curE c) (curE c) [.ptr 0 0] (conZ c):=by
 refine qdd c0ds 1 (by simp) (by simp) ?_
 repeat' (first | refine vs_ ?_ | ((first | refine vr_ ?_ | fail)<;>(try simp only [hc,Int.reduceEq,go_sem,↓reduceIte])) | ((first | (refine cs_ ?_ ?_<;>intro hc) | refine cj_ ?_ | fail | refine qbq ?_ | refine a_Is ?_)<;>(try refine ev_ ?_)) | with_reducible exact ti_)
theorem q2f (c:K) (hg:c.good) (hc:(qs c).kind = 2):qbt Tryz.prog 96 (curE c) (curE (qi c)) [.ptr 0 0] (conZ c):=by
 refine qdd c0du 1 (by simp) (by simp) ?_
 repeat' (first | refine vs_ ?_ | ((first | refine vr_ ?_ | fail)<;>(try simp only [hc,go_sem,↓reduceIte])) | ((first | (refine cs_ ?_ ?_<;>intro hc) | refine cj_ ?_ | fail | refine qbu (q15 c hc) (qp _ _) (qp _ _) rfl (q38 _ _) fun _=>?_ | refine qjb hg.ok ?_)<;>(try refine ev_ ?_)) | with_reducible exact ti_)
def q8k (p:Int) (t:List UInt8) (x:Bool×Nat×K×List N):AF×List Ent :=
 (⟨[(0, .ptr 0 0), (2, .ptr 1 0), (4, .bool true), (5, .ptr 2 0), (6, .bool x.1)], []⟩,
   curE x.2.2.1 :: .blk [.int .i64 0,.int .i64 0,.int .i64 0,.str [],.nils] :: .blk [.int .i64 14,.int .i64 p,.int .i64 0,.str t,accV 3 (encs x.2.2.2)] :: accE 5 (encs x.2.2.2))
theorem quz {f:Nat} (ih:∀ c,c.good->rest c < f->qbt Tryz.prog 54 (curE c) (curE (qcg f c).1) [.ptr 0 0] (resP (qcg f c).2)) (c:K) (hg:c.good) (hr:rest c < f + 1) :
 qbt Tryz.prog 54 (curE c) (curE (qcg (f + 1) c).1) [.ptr 0 0] (resP (qcg (f + 1) c).2):=by
 have hm:=qe8 f
 have g1:(qd c).1.good:=(q7 c).1 hg
 have hr1:rest (qd c).1≤f:=by have:=(q7 c).2.1;omega
 refine qj c0dv 1 (by simp) (by simp) ?_
 by_cases hk:(qd c).2 = true∧(qs (qd c).1).kind = 2
 ·obtain ⟨hk1,hk2⟩:=hk
  have g2:(qi (qd c).1).good:=(qcu _).1 g1
  have hpa:qcg (f + 1) c = (qdh (qhr (qcg f) (rest (qd c).1 + 1) (qi (qd c).1) []).1,(qhr (qcg f) (rest (qd c).1 + 1) (qi (qd c).1) []).2.map fun ks=>.mk 14 (qs (qd c).1).pos 0 (qs (qd c).1).text ks):=by rw [qcg,if_pos hk1,if_pos hk2]
  rw [hpa]
  clear hpa
  generalize htg:qhr (qcg f) (rest (qd c).1 + 1) (qi (qd c).1) [] = tg
  have hmt:Mon (qi (qd c).1) tg.1:=htg ▸ qr8 hm _ _ _
  have g3:tg.1.good:=hmt.1 g2
  repeat' (first | refine vs_ ?_ | ((first | refine vr_ ?_ | fail)<;>(try simp only [hk1,hk2,Int.reduceEq,go_sem,↓reduceIte])) | ((first | (refine cs_ ?_ ?_<;>intro hc) | refine cj_ ?_ | fail | refine qg2 ?_ | refine qbq ?_ | refine qbu (q2f _ g1 hk2) (qp _ _) (qp _ _) rfl (q38 _ _) fun _=>?_)<;>(try refine ev_ ?_)) | with_reducible exact ti_)
  refine qcc (S:=Bool×Nat×K×List N) (fun x=>x.2.2.1.good∧rest x.2.2.1≤f∧(x.1 = true->qhr (qcg f) x.2.1 x.2.2.1 x.2.2.2 = tg∧rest x.2.2.1 < x.2.1)∧(x.1 = false->tg = (x.2.2.1,none))∧x.2.2.2.length + rest x.2.2.1≤1048577)
   (q8k (qs (qd c).1).pos (qs (qd c).1).text) (fun x=>if x.1 = true then rest x.2.2.1 + 1 else 0) ?_ ?_
  ·have hrn:=(qcu (qd c).1).2.1
   refine qbl (true,rest (qd c).1 + 1,qi (qd c).1,[]) [0,1,2] ⟨g2,by simp only;omega,fun _=>⟨htg,by simp only;omega⟩,(by intro h;cases h),?_⟩ rfl (by simp) ?_ ?_ ?_
   ·have h9:=g2.rest
    unfold rest
    simp only [List.length_nil]
    omega
   all_goals simp only [q8k,encs,qbb,qbc]
   all_goals (refine ev_ ?_;(try with_reducible exact ti_))
  ·rintro ⟨b,fu,d,acc⟩ ⟨i1,i2,i3,i4,i5⟩
   simp only at i1 i2 i3 i4 i5
   unfold q8k
   cases b with
   | false =>
     have i4:=i4 rfl
     subst i4
     repeat' (first | refine vs_ ?_ | ((first | refine vr_ ?_ | refine qet i1.2.2 ?_ | (refine cs_ ?_ ?_<;>intro hc) | refine cj_ ?_ | fail)<;>(try refine ev_ ?_)) | with_reducible exact ti_)
     simp only [Option.map_none,Option.getD_none,Option.isSome_none,qdf]
   | true =>
     have i6:=(i3 rfl).2
     replace i3:=(i3 rfl).1
     clear i4
     obtain ⟨fu,rfl⟩:∃ k,fu = k + 1:=⟨fu - 1,by omega⟩
     rw [qhr] at i3
     have hcap:qec (acc.length + 1) 64:=capN (by omega)
     have j1:(qbp (qcg f) d).1.good:=(qjo hm d).1 i1
     have j2:rest (qbp (qcg f) d).1≤rest d:=(qjo hm d).2.1
     by_cases h0:acc = []
     ·subst h0
      simp only [encs,qbb,qbc]
      repeat' (first | refine vs_ ?_ | ((first | refine vr_ ?_ | refine qbhp ?_ | refine qb7 (qpc hm ih _ i1 i2) rfl ?_ | refine qet i1.2.2 ?_ | (refine cs_ ?_ ?_<;>intro hc) | refine cj_ ?_ | fail)<;>(try refine ev_ ?_)) | with_reducible exact ti_)
      ·have hb:begP d = true:=by assumption
       have hs:(qbp (qcg f) d).2.isSome = true:=by assumption
       rw [if_pos hb,if_pos hs] at i3
       have hlt:=qvt hm hs
       refine qbl (true,fu,(qbp (qcg f) d).1,[] ++ [(qbp (qcg f) d).2.getD N0]) [0,1,2,4] ⟨⟨j1,by simp only;omega,fun _=>⟨i3,by simp only;omega⟩,(by intro h;cases h),?_⟩,by simp only [if_true];omega⟩ rfl (by simp) ?_ ?_ ?_
       ·simp only [List.length_append,List.length_cons,List.length_nil];omega
       all_goals simp only [← qh,qfe,qfc,List.nil_append,encs,qgo,qgv]
       all_goals (refine ev_ ?_;(try with_reducible exact ti_))
      ·have hb:begP d = true:=by assumption
       have hs:(qbp (qcg f) d).2.isSome = false:=by assumption
       rw [if_pos hb,if_neg (by rw [hs];simp)] at i3
       refine qbl (false,0,(qbp (qcg f) d).1,[]) [0,1,2] ⟨⟨j1,by simp only;omega,(by intro h;cases h),fun _=>i3.symm,by simp only;omega⟩,by simp only [if_true,Bool.false_eq_true,if_false];omega⟩ rfl (by simp) ?_ ?_ ?_
       all_goals simp only [encs,qbb,qbc]
       all_goals (refine ev_ ?_;(try with_reducible exact ti_))
      ·have hb:begP d = false:=by assumption
       rw [if_neg (by rw [hb];simp)] at i3
       subst i3
       simp only [Option.map_some,Option.getD_some,Option.isSome_some,enc,encs,and_self]
     ·have hne:=q9 h0
      simp only [qbi hne,qbh hne,q8]
      repeat' (first | refine vs_ ?_ | ((first | refine vr_ ?_ | refine qbhp ?_ | refine qb7 (qpc hm ih _ i1 i2) rfl ?_ | refine qet i1.2.2 ?_ | (refine cs_ ?_ ?_<;>intro hc) | refine cj_ ?_ | fail)<;>(try refine ev_ ?_)) | with_reducible exact ti_)
      ·have hb:begP d = true:=by assumption
       have hs:(qbp (qcg f) d).2.isSome = true:=by assumption
       rw [if_pos hb,if_pos hs] at i3
       have hlt:=qvt hm hs
       refine qbl (true,fu,(qbp (qcg f) d).1,acc ++ [(qbp (qcg f) d).2.getD N0]) [0,1,2,5] ⟨⟨j1,by simp only;omega,fun _=>⟨i3,by simp only;omega⟩,(by intro h;cases h),?_⟩,by simp only [if_true];omega⟩ rfl (by simp) ?_ ?_ ?_
       ·simp only [List.length_append,List.length_cons,List.length_nil];omega
       all_goals simp only [← qh,qfe,qfc,List.nil_append,encs,qgo,qgv]
       all_goals (refine ev_ ?_;(try with_reducible exact ti_))
       rw [qh,qu,qbf];exact ⟨rfl,rfl⟩
      ·have hb:begP d = true:=by assumption
       have hs:(qbp (qcg f) d).2.isSome = false:=by assumption
       rw [if_pos hb,if_neg (by rw [hs];simp)] at i3
       refine qbl (false,0,(qbp (qcg f) d).1,acc) [0,1,2,3] ⟨⟨j1,by simp only;omega,(by intro h;cases h),fun _=>i3.symm,by simp only;omega⟩,by simp only [if_true,Bool.false_eq_true,if_false];omega⟩ rfl (by simp) ?_ ?_ ?_
       all_goals simp only [qbi hne,qbh hne,q8]
       all_goals (refine ev_ ?_;(try with_reducible exact ti_))
      ·have hb:begP d = false:=by assumption
       rw [if_neg (by rw [hb];simp)] at i3
       subst i3
       simp only [Option.map_some,Option.getD_some,Option.isSome_some,enc,encs,and_self]
 ·by_cases hk1:(qd c).2 = true
  ·have hk2:¬ (qs (qd c).1).kind = 2:=fun h=>hk ⟨hk1,h⟩
   have j1:(qbp (qcg f) (qd c).1).1.good:=(qjo hm _).1 g1
   have hpa:qcg (f + 1) c = (qdh (qbp (qcg f) (qd c).1).1,(qbp (qcg f) (qd c).1).2):=by rw [qcg,if_pos hk1,if_neg hk2]
   rw [hpa]
   clear hpa
   repeat' (first | refine vs_ ?_ | ((first | refine vr_ ?_ | fail)<;>(try simp only [hk1,hk2,go_sem,↓reduceIte])) | ((first | (refine cs_ ?_ ?_<;>intro hc) | refine cj_ ?_ | fail | refine qg2 ?_ | refine qbq ?_ | refine qb7 (qpc hm ih _ g1 hr1) rfl ?_)<;>(try refine ev_ ?_)) | with_reducible exact ti_)
   generalize hr':qbp (qcg f) (qd c).1 = r at j1
   refine qcc (S:=Unit) (fun _=>True) (fun _=>(⟨[(0,.ptr 0 0),(2,.ptr 1 0),(4,.bool false),(5,.ptr 2 0),(6,.bool r.2.isSome)],[]⟩,[curE r.1,.blk [.int .i64 0,.int .i64 0,.int .i64 0,.str [],.nils],.blk (enc (r.2.getD N0)).cells])) (fun _=>0) ?_ ?_
   ·refine qbl () [0,1,2] trivial rfl (by simp) ?_ ?_ ?_<;>(try refine ev_ ?_)<;>(try with_reducible exact ti_)<;>(try simp (disch:=omega) only [qm,and_true,true_and])
   ·intro _ _
    repeat' (first | refine vs_ ?_ | ((first | refine vr_ ?_ | refine qet j1.2.2 ?_ | (refine cs_ ?_ ?_<;>intro hc) | refine cj_ ?_ | fail)<;>(try refine ev_ ?_)) | with_reducible exact ti_)
    have hs:r.2 = none:=by
     have:r.2.isSome = false:=by assumption
     revert this
     cases r.2<;>simp
    rw [hs,qdf];rfl
  ·have hk1:(qd c).2 = false:=by simpa using hk1
   have hpa:qcg (f + 1) c = ((qd c).1,none):=by rw [qcg,if_neg (by rw [hk1];simp)]
   rw [hpa]
   repeat' (first | refine vs_ ?_ | ((first | refine vr_ ?_ | fail)<;>(try simp only [hk1,go_sem,↓reduceIte])) | ((first | (refine cs_ ?_ ?_<;>intro hc) | refine cj_ ?_ | fail | refine qg2 ?_)<;>(try refine ev_ ?_)) | with_reducible exact ti_)
   rw [qdf];rfl
theorem q52 (f:Nat):∀ c:K,c.good->rest c < f->qbt Tryz.prog 54 (curE c) (curE (qcg f c).1) [.ptr 0 0] (resP (qcg f c).2):=by
 induction f with
 | zero=>exact fun c _ h=>absurd h (by omega)
 | succ f ih=>exact quz ih
end Go.Proofs.YtlmcofjcpadmiaaGreat
