/- Texts of this proof, joined. -/
import Derived.Test.YtlmcofjcpadmiaaGreatNaw
import Derived.Test.YtlmcofjcpadmiaaGreatNax
set_option linter.unusedVariables false
set_option linter.unusedSimpArgs false

/- types: contexts: the program -/
set_option maxRecDepth 4000
namespace Go.Proofs.YtlmcofjcpadmiaaGreat
open Go Go.RowKit Go.V

theorem qbp (c:K) (k:Int):Mon c (kindK c k).1:=by
 unfold kindK
 split
 ·exact qbj c
 ·exact qc3 c 5
theorem qg7 {c:K} {k:Int} (h:(kindK c k).2 = true):c.err = 0∧(qp c).kind = k:=by
 unfold kindK at h
 split at h
 ·rename_i h1
  simp only [Bool.and_eq_true,decide_eq_true_eq] at h1
  exact h1
 ·cases h
theorem qj9 {c:K} {k:Int} (h:(kindK c k).2 = true):kindK c k = (qg c,true)∧qen c k = qp c:=by
 obtain ⟨h1,h2⟩:=qg7 h
 exact ⟨qs3 h1 h2,qx7 h1 h2⟩
theorem qnt {c:K} {k:Int} (h:(kindK c k).2 = false):(kindK c k).1.err≠0:=by
 unfold kindK at h ⊢
 split at h
 ·cases h
 ·rename_i h1;rw [if_neg h1];exact qf8 c
def qon (c:K):Bool:=!decide ((ql9 c).2 = 0) && (!decide ((ql9 c).2 = 5) || decide ((qp c).kind = 0))
theorem q89 (c:K) (hk:c.ok):qb7 Tryz.prog 181 (curE c) (curE c) [.ptr 0 0] (.bool (qon c)):=by
 refine qq c0dw 1 (by simp) (by simp) ?_
 repeat' (first | refine vs_ ?_ | ((first | refine vr_ ?_ | refine qcd7 hk ?_ | refine qb2 ?_ | (refine cs_ ?_ ?_<;>intro hc) | refine cj_ ?_ | fail)<;>(try refine ev_ ?_)) | with_reducible exact ti_)
 all_goals (unfold qon;simp_all)
theorem qb0q {c:K} {L:List Ent} {Q:List Ent->VO->Prop} (hk:c.ok) (hq:Q (curE c :: L) (.val (.bool (qon c)))):VApp Tryz.prog (curE c :: L) (.fn 181 [] []) [.ptr 0 0] Q:=qb4 (q89 c hk) (q9 _ _) (q9 _ _) rfl rfl fun _=>hq
def qp0 (t:T) (n:N):N:=.mk 3 t.pos 0 t.text [n]
def qz (rec:K->K×Option N) (c:K):K×Option N :=
 if (kindK c 2).2 = true then ((qbg rec (kindK c 2).1).1,(qbg rec (kindK c 2).1).2.map (qp0 (qen c 2)))
 else ((kindK c 2).1,none)
theorem q7n {c:K} {L:List Ent} {t:T} {n:N} {b:Bool} {Q:List Ent->VO->Prop} (hq:Q (curE c :: L) (.val (resP (qof (qp0 t n) b)))) :
 VApp Tryz.prog (curE c :: L) (.fn 147 [] []) [.ptr 0 0,.agg [.int .i64 3,.int .i64 t.pos,.int .i64 0,.str t.text,.sl 5 [enc n]],.bool b] Q:=by
 have h:=qzj (n:=qp0 t n) hq
 simpa only [qp0,enc,encs] using h
theorem qbgx {r:Option N} {t:T}:qof (qp0 t (r.getD N0)) r.isSome = r.map (qp0 t):=qxl
section
variable {rec:K->K×Option N} {b:Nat} (hm:∀ c,Mon c (rec c).1) (ih:∀ c,c.good->rest c < b->qb7 Tryz.prog 93 (curE c) (curE (rec c).1) [.ptr 0 0] (resP (rec c).2))
include hm ih
theorem qp8 (c:K) (hg:c.good) (hr:rest c≤b):qb7 Tryz.prog 182 (curE c) (curE (qz rec c).1) [.ptr 0 0] (resP (qz rec c).2):=by
 have g1:(kindK c 2).1.good:=(qbp c 2).1 hg
 have hr1:rest (kindK c 2).1≤b:=by have:=(qbp c 2).2.1;omega
 refine qq c0dx 1 (by simp) (by simp) ?_
 repeat' (first | refine vs_ ?_ | ((first | refine vr_ ?_ | refine qdb hg.ok ?_ | refine qcs (qjd hm ih _ g1 hr1) rfl ?_ | refine q7n ?_ | (refine cs_ ?_ ?_<;>intro hc) | refine cj_ ?_ | fail)<;>(try refine ev_ ?_)) | with_reducible exact ti_)
 all_goals (try simp only [qbgx])
 all_goals (unfold qz;simp only [*,qed,Int.reduceEq,if_true,if_false,reduceIte,Bool.false_eq_true,Option.getD_none,Option.getD_some,Option.isSome_none,Option.isSome_some,and_self,true_and,and_true];try rfl)
end
set_option maxRecDepth 4000

def qdc (rec:K->K×Option N) (many:Bool):Nat->K->List N->K×Option (List N)
 | 0,c,_=>(c,none)
 | f + 1, c, acc =>
   if (qz rec c).2.isSome = true then
    if (many && (qf (qz rec c).1 [44]).2) = true then qdc rec many f (qf (qz rec c).1 [44]).1 (acc ++ [(qz rec c).2.getD N0])
    else ((qz rec c).1,some (acc ++ [(qz rec c).2.getD N0]))
   else ((qz rec c).1,none)
def qel (many:Bool) (r:K×Option (List N)):K×Option (List N) :=
 if r.2.isSome = true then
  if many = true then
   if (qh r.1 [41]).2 = true then ((qh (qh r.1 [41]).1 [61,62]).1,if (qh (qh r.1 [41]).1 [61,62]).2 = true then r.2 else none)
   else ((qh r.1 [41]).1,none)
  else ((qh r.1 [61,62]).1,if (qh r.1 [61,62]).2 = true then r.2 else none)
 else (r.1,none)
def qek (rec:K->K×Option N) (c:K):K×Option (List N) :=
 if ((qf c [40]).2 && isK (qf c [40]).1 [41]) = true then ((qf c [40]).1,some []) else qdc rec (qf c [40]).2 (rest (qf c [40]).1 + 1) (qf c [40]).1 []
def qt (rec:K->K×Option N) (c:K):K×Option (List N) :=
 if qll c [61,62] = true then qel (qf c [40]).2 (qek rec c)
 else (c,if qon c = true then none else some [])
section
variable {rec:K->K×Option N} (hm:∀ c,Mon c (rec c).1)
include hm
theorem qhq (c:K):Mon c (qz rec c).1:=by
 unfold qz
 split
 ·exact (qbp c 2).trans (qdr hm _)
 ·exact qbp c 2
theorem qky {c:K} (h:(qz rec c).2.isSome = true):rest (qz rec c).1 < rest c:=by
 unfold qz at h ⊢
 split at h
 ·rename_i h1
  rw [if_pos h1]
  have h2:=(qbp c 2).2.1
  have h3:=qd0 hm (c:=(kindK c 2).1) (by simpa using h)
  simp only;omega
 ·cases h
theorem qv1 (many:Bool):∀ (f:Nat) (c:K) (acc:List N),Mon c (qdc rec many f c acc).1
 | 0,c,acc=>Mon.refl c
 | f + 1, c, acc => by
   rw [qdc]
   split
   ·split
    ·exact ((qhq hm c).trans (qm _ _)).trans (qv1 many f _ _)
    ·exact qhq hm c
   ·exact qhq hm c
theorem q88 (c:K):Mon c (qek rec c).1:=by
 unfold qek
 split
 ·exact qm c _
 ·exact (qm c _).trans (qv1 hm _ _ _ _)
theorem qfd (c:K):Mon c (qt rec c).1:=by
 unfold qt qel
 have h:=q88 hm c
 split
 ·split
  ·split
   ·split
    ·exact (h.trans (qe _ _)).trans (qe _ _)
    ·exact h.trans (qe _ _)
   ·exact h.trans (qe _ _)
  ·exact h
 ·exact Mon.refl c
end
def qww (p:Nat) (r:Option (List N)):AV:=.tup [accV p (encs (r.getD [])),.bool r.isSome]
def qja (rec:K->K×Option N) (c:K):Prop:=VCalls Tryz.prog 146 [curE c] [.ptr 0 0] fun H' o=>H' = curE (qt rec c).1 :: accE 5 (encs ((qt rec c).2.getD []))∧o = .val (qww 1 (qt rec c).2)
def qbez (many:Bool) (x:Bool×Nat×K×List N):AF×List Ent :=
 (⟨[(0,.ptr 0 0),(4,accV 1 (encs x.2.2.2)),(5,.bool many),(6,.bool x.1)],[]⟩,curE x.2.2.1 :: accE 5 (encs x.2.2.2))
section
variable {rec:K->K×Option N} {b:Nat} (hm:∀ c,Mon c (rec c).1) (ih:∀ c,c.good->rest c < b->qb7 Tryz.prog 93 (curE c) (curE (rec c).1) [.ptr 0 0] (resP (rec c).2))
include hm ih
theorem qtm (c:K) (hg:c.good) (hr:rest c≤b):qja rec c:=by
 unfold qja
 obtain ⟨kk,hk1,hk2,hk0⟩:∃ k:Nat,((qt rec c).2.getD [] = []->k = 1)∧((qt rec c).2.getD []≠[]->k = 2)∧1≤k:=by
  by_cases h:(qt rec c).2.getD [] = []
  ·exact ⟨1,fun _=>rfl,fun g=>absurd h g,by omega⟩
  ·exact ⟨2,fun g=>absurd g h,fun _=>rfl,by omega⟩
 refine qdx c0dv kk (by simpa using hk0) (by simp) ?_
 have g1:(qf c [40]).1.good:=(qm c _).1 hg
 have hr1:rest (qf c [40]).1≤b:=by have:=(qm c [40]).2.1;omega
 by_cases ha:qll c [61,62] = true
 ·have hpa:qt rec c = qel (qf c [40]).2 (qek rec c):=by rw [qt,if_pos ha]
  rw [hpa] at hk1 hk2 ⊢
  clear hpa
  unfold qek at hk1 hk2 ⊢
  generalize htg:(if ((qf c [40]).2 && isK (qf c [40]).1 [41]) = true then ((qf c [40]).1,some []) else qdc rec (qf c [40]).2 (rest (qf c [40]).1 + 1) (qf c [40]).1 []) = tg at hk1 hk2 ⊢
  generalize hd0:(qf c [40]).1 = d0 at *
  generalize hmn:(qf c [40]).2 = many at *
  have h0t:(!(many && isK d0 [41])) = true->qdc rec many (rest d0 + 1) d0 [] = tg:=fun h=>by
   rw [Bool.not_eq_true'] at h
   rw [← htg,if_neg (by rw [h];simp)]
  have h0f:(!(many && isK d0 [41])) = false->tg = (d0,some []):=fun h=>by
   rw [Bool.not_eq_false'] at h
   rw [← htg,if_pos h]
  clear htg
  obtain ⟨mm,hmm⟩:∃ mm,mm = many:=⟨_,rfl⟩
  cases many<;>(
   repeat' (first | refine vs_ ?_ | ((first | refine vr_ ?_ | fail)<;>(try simp only [ha,hd0,hmn,go_sem,↓reduceIte])) | ((first | (refine cs_ ?_ ?_<;>intro hc) | refine cj_ ?_ | fail | refine qbal hg.ok hg.2.1 ?_ | refine qef hg.ok ?_ | refine a_Is ?_)<;>(try refine ev_ ?_)) | with_reducible exact ti_)
   refine qcm (S:=Bool×Nat×K×List N) (fun x=>x.2.2.1.good∧rest x.2.2.1≤b∧(x.1 = true->qdc rec mm x.2.1 x.2.2.1 x.2.2.2 = tg∧rest x.2.2.1 < x.2.1)∧(x.1 = false->tg = (x.2.2.1,some x.2.2.2))∧x.2.2.2.length + rest x.2.2.1≤1048577)
    (qbez mm) (fun x=>if x.1 = true then rest x.2.2.1 + 1 else 0) ?_ ?_
   ·refine qb1 (!(mm && isK d0 [41]),rest d0 + 1,d0,[]) [0] ⟨g1,hr1,fun h=>⟨by rw [hmm];exact h0t (by simp only [hmm] at h;exact h),Nat.lt_succ_self _⟩,fun h=>h0f (by simp only [hmm] at h;exact h),?_⟩ rfl (by simp) ?_ ?_ ?_
    ·have h9:=g1.rest
     unfold rest
     simp only [List.length_nil]
     omega
    all_goals simp only [qbez,encs,qbl,qbo,hmm,Bool.false_and,Bool.true_and,Bool.not_false]
    all_goals (refine ev_ ?_;(try with_reducible exact ti_))
   ·rintro ⟨more,fu,d,acc⟩ ⟨i1,i2,i3,i4,i5⟩
    simp only at i1 i2 i3 i4 i5
    unfold qbez
    have hcap:qfe (acc.length + 1) 64:=capN (by omega)
    cases more with
    | false =>
      have i4:=i4 rfl
      subst i4
      clear i3
      by_cases hE:(qel mm (d,some acc)).2.getD [] = []
      ·simp only [hmm] at hE
       obtain rfl:=hk1 hE
       by_cases h0:acc = []
       ·subst h0
        simp only [encs,qbl,qbo,hmm]
        repeat' (first | refine vs_ ?_ | ((first | refine vr_ ?_ | fail)<;>(try simp only [hmm,go_sem,↓reduceIte])) | ((first | (refine cs_ ?_ ?_<;>intro hc) | refine cj_ ?_ | fail | refine qcc i1.ok ?_ | refine qcc ((qe d _).1 i1).ok ?_)<;>(try refine ev_ ?_)) | with_reducible exact ti_)
        all_goals (unfold qel;simp only [*,qww,encs,qbl,qbo,if_true,if_false,reduceIte,Bool.false_eq_true,Option.isSome_some,Option.isSome_none,Option.getD_some,Option.getD_none,and_self,true_and,and_true,Bool.true_and,Bool.false_and,not_true_eq_false])
       ·have hne:=qbf h0
        simp only [qbt hne,qbu hne,qbc,hmm]
        repeat' (first | refine vs_ ?_ | ((first | refine vr_ ?_ | fail)<;>(try simp only [hmm,go_sem,↓reduceIte])) | ((first | (refine cs_ ?_ ?_<;>intro hc) | refine cj_ ?_ | fail | refine qcc i1.ok ?_ | refine qcc ((qe d _).1 i1).ok ?_)<;>(try refine ev_ ?_)) | with_reducible exact ti_)
        all_goals first | (exfalso;unfold qel at hE;simp only [*,qww,encs,qbl,qbo,if_true,if_false,reduceIte,Bool.false_eq_true,Option.isSome_some,Option.isSome_none,Option.getD_some,Option.getD_none,and_self,true_and,and_true,Bool.true_and,Bool.false_and,not_true_eq_false] at hE;done) | (unfold qel;simp only [*,qww,encs,qbl,qbo,if_true,if_false,reduceIte,Bool.false_eq_true,Option.isSome_some,Option.isSome_none,Option.getD_some,Option.getD_none,and_self,true_and,and_true,Bool.true_and,Bool.false_and,not_true_eq_false])
      ·simp only [hmm] at hE
       obtain rfl:=hk2 hE
       have h0:¬ acc = []:=by
        intro h
        subst h
        apply hE
        unfold qel
        repeat' split
        all_goals rfl
       have hne:=qbf h0
       simp only [qbt hne,qbu hne,qbc,hmm]
       repeat' (first | refine vs_ ?_ | ((first | refine vr_ ?_ | fail)<;>(try simp only [hmm,go_sem,↓reduceIte])) | ((first | (refine cs_ ?_ ?_<;>intro hc) | refine cj_ ?_ | fail | refine qcc i1.ok ?_ | refine qcc ((qe d _).1 i1).ok ?_)<;>(try refine ev_ ?_)) | with_reducible exact ti_)
       all_goals first | (exfalso;unfold qel at hE;simp only [*,qww,encs,qbl,qbo,if_true,if_false,reduceIte,Bool.false_eq_true,Option.isSome_some,Option.isSome_none,Option.getD_some,Option.getD_none,and_self,true_and,and_true,Bool.true_and,Bool.false_and,not_true_eq_false] at hE;done) | (unfold qel;simp only [*,qww,encs,qbl,qbo,if_true,if_false,reduceIte,Bool.false_eq_true,Option.isSome_some,Option.isSome_none,Option.getD_some,Option.getD_none,and_self,true_and,and_true,Bool.true_and,Bool.false_and,not_true_eq_false];rw [qbu hne,qbt hne,qbc];exact ⟨rfl,rfl⟩)
    | true =>
      have i6:=(i3 rfl).2
      replace i3:=(i3 rfl).1
      clear i4
      obtain ⟨fu,rfl⟩:∃ k,fu = k + 1:=⟨fu - 1,by omega⟩
      rw [qdc] at i3
      have j1:(qz rec d).1.good:=(qhq hm d).1 i1
      have j2:rest (qz rec d).1≤rest d:=(qhq hm d).2.1
      have j3:(qf (qz rec d).1 [44]).1.good:=(qm _ _).1 j1
      have j4:=(qm (qz rec d).1 [44]).2.1
      by_cases hs:(qz rec d).2.isSome = true
      ·rw [if_pos hs] at i3
       have hlt:=qky hm hs
       obtain ⟨d',hd',k1,k2,k3,k4⟩:∃ d',d' = (if mm = true then (qf (qz rec d).1 [44]).1 else (qz rec d).1)∧d'.good∧rest d'≤rest (qz rec d).1∧((mm && (qf (qz rec d).1 [44]).2) = true->qdc rec mm fu d' (acc ++ [(qz rec d).2.getD N0]) = tg)∧((mm && (qf (qz rec d).1 [44]).2) = false->tg = (d',some (acc ++ [(qz rec d).2.getD N0]))):=by
        refine ⟨_,rfl,?_,?_,fun h=>?_,fun h=>?_⟩
        ·cases mm
         ·exact j1
         ·exact j3
        ·cases mm
         ·exact Nat.le_refl _
         ·exact j4
        ·rw [if_pos h] at i3
         rw [if_pos (by simp only [Bool.and_eq_true] at h;exact h.1)]
         exact i3
        ·rw [if_neg (by rw [h];simp)] at i3
         rw [← i3]
         clear hmm
         cases mm
         ·rfl
         ·rw [Bool.true_and] at h
          rw [if_pos rfl,qdh h]
       by_cases h0:acc = []
       ·subst h0
        simp only [encs,qbl,qbo,hmm]
        repeat' (first | refine vs_ ?_ | ((first | refine vr_ ?_ | fail)<;>(try simp only [hmm,hs,go_sem,↓reduceIte])) | ((first | (refine cs_ ?_ ?_<;>intro hc) | refine cj_ ?_ | fail | refine qcs (qp8 hm ih d i1 i2) rfl ?_ | refine qef j1.ok ?_)<;>(try refine ev_ ?_)) | with_reducible exact ti_)
        ·refine qb1 (mm && (qf (qz rec d).1 [44]).2,fu,d',[] ++ [(qz rec d).2.getD N0]) [0,2] ⟨⟨k1,by simp only;omega,fun h=>⟨by first | exact k3 h | (have:=k3 h;simpa only [hmm] using this),by simp only;omega⟩,fun h=>k4 h,?_⟩,?_⟩ rfl (by simp) ?_ ?_ ?_
         ·simp only [List.length_append,List.length_cons,List.length_nil];omega
         ·simp only;split<;>omega
         all_goals simp only [hd',hmm,if_true,if_false,reduceIte,Bool.false_eq_true,Bool.true_and,Bool.false_and,qbez,← ql,qgi,qgc,List.nil_append,encs,qh5,qig]
         all_goals (refine ev_ ?_;(try with_reducible exact ti_))
       ·have hne:=qbf h0
        simp only [qbt hne,qbu hne,qbc,hmm]
        repeat' (first | refine vs_ ?_ | ((first | refine vr_ ?_ | fail)<;>(try simp only [hmm,hs,go_sem,↓reduceIte])) | ((first | (refine cs_ ?_ ?_<;>intro hc) | refine cj_ ?_ | fail | refine qcs (qp8 hm ih d i1 i2) rfl ?_ | refine qef j1.ok ?_)<;>(try refine ev_ ?_)) | with_reducible exact ti_)
        ·refine qb1 (mm && (qf (qz rec d).1 [44]).2,fu,d',acc ++ [(qz rec d).2.getD N0]) [0,3] ⟨⟨k1,by simp only;omega,fun h=>⟨by first | exact k3 h | (have:=k3 h;simpa only [hmm] using this),by simp only;omega⟩,fun h=>k4 h,?_⟩,?_⟩ rfl (by simp) ?_ ?_ ?_
         ·simp only [List.length_append,List.length_cons,List.length_nil];omega
         ·simp only;split<;>omega
         all_goals simp only [hd',hmm,if_true,if_false,reduceIte,Bool.false_eq_true,Bool.true_and,Bool.false_and,qbez,← ql,qgi,qgc,List.nil_append,encs,qh5,qig]
         all_goals (refine ev_ ?_;(try with_reducible exact ti_))
         all_goals (try (rw [ql,q7,qbs];exact ⟨rfl,rfl⟩))
      ·have hs:(qz rec d).2.isSome = false:=by simpa using hs
       rw [if_neg (by rw [hs];simp)] at i3
       subst i3
       obtain rfl:=hk1 rfl
       by_cases h0:acc = []
       ·subst h0
        simp only [encs,qbl,qbo,hmm]
        repeat' (first | refine vs_ ?_ | ((first | refine vr_ ?_ | fail)<;>(try simp only [hmm,hs,go_sem,↓reduceIte])) | ((first | (refine cs_ ?_ ?_<;>intro hc) | refine cj_ ?_ | fail | refine qcs (qp8 hm ih d i1 i2) rfl ?_ | refine qef j1.ok ?_)<;>(try refine ev_ ?_)) | with_reducible exact ti_)
        exact ⟨rfl,rfl⟩
       ·have hne:=qbf h0
        simp only [qbt hne,qbu hne,qbc,hmm]
        repeat' (first | refine vs_ ?_ | ((first | refine vr_ ?_ | fail)<;>(try simp only [hmm,hs,go_sem,↓reduceIte])) | ((first | (refine cs_ ?_ ?_<;>intro hc) | refine cj_ ?_ | fail | refine qcs (qp8 hm ih d i1 i2) rfl ?_ | refine qef j1.ok ?_)<;>(try refine ev_ ?_)) | with_reducible exact ti_)
        exact ⟨rfl,rfl⟩
   )
 ·have hpa:qt rec c = (c,if qon c = true then none else some []):=by rw [qt,if_neg ha]
  rw [hpa] at hk1 hk2 ⊢
  obtain rfl:=hk1 (by simp only;split<;>rfl)
  repeat' (first | refine vs_ ?_ | ((first | refine vr_ ?_ | fail)<;>(try simp only [ha,go_sem,↓reduceIte])) | ((first | (refine cs_ ?_ ?_<;>intro hc) | refine cj_ ?_ | fail | refine qbal hg.ok hg.2.1 ?_ | refine qb0q hg.ok ?_)<;>(try refine ev_ ?_)) | with_reducible exact ti_)
  cases qon c<;>exact ⟨rfl,rfl⟩
end
set_option maxRecDepth 4000

theorem qoe {rec:K->K×Option N} {c:K} (h:qja rec c) (h0:(qt rec c).2.getD [] = []) {L:List Ent} {Q:List Ent->VO->Prop} (hq:Q (curE (qt rec c).1 :: L) (.val (.tup [.nils,.bool (qt rec c).2.isSome]))) :
 VApp Tryz.prog (curE c :: L) (.fn 146 [] []) [.ptr 0 0] Q :=
 qb4 (r:=.tup [.nils,.bool (qt rec c).2.isSome]) (e':=curE (qt rec c).1) (by
  unfold qja at h
  rw [h0] at h
  unfold qb7
  have hr:qww 1 (qt rec c).2 = .tup [.nils,.bool (qt rec c).2.isSome]:=by rw [qww,h0];rfl
  rw [hr] at h
  exact h) (q9 _ _) (q9 _ _) rfl rfl fun _=>hq
theorem qvn {rec:K->K×Option N} {c:K} (h:qja rec c) {l:List N} (hl:(qt rec c).2 = some l) (h0:l≠[]) {L:List Ent} {Q:List Ent->VO->Prop}
 (hq:Q (curE (qt rec c).1 :: (L ++ [.app 5 (encs l)])) (.val (.tup [.row (L.length + 1) l.length,.bool true]))) :
 VApp Tryz.prog (curE c :: L) (.fn 146 [] []) [.ptr 0 0] Q :=
 qb3 (first:=[]) (caps:=[]) (by
  simp only [List.nil_append,List.append_nil]
  have hne:=qbf h0
  have hs:AV.rens (sg [0]) [.ptr 0 0] = [.ptr 0 0]:=rfl
  rw [← hs]
  have ha:AV.bds 1 [.ptr 0 0] = true:=rfl
  have napp_ren:∀ σ:Nat->Nat,(Ent.app 5 (encs l)).ren σ = .app 5 (encs l):=fun σ=>Ent.ren_same (m:=0) (fun i hi=>by omega) _ (by simp [Ent.bd,q7])
  refine qhd (H0:=[curE c]) [0] h (by simp) (by simp) rfl ?_ ha ?_
  ·intro j e2 hj
   obtain rfl:j = 0:=by have:=(List.getElem?_eq_some_iff.1 hj).1;simp at this;omega
   simp only [List.getElem?_cons_zero,Option.some.injEq] at hj
   subst hj
   exact .inr ⟨q9 _ _,by rw [qc4];rfl⟩
  rintro H1 o ⟨rfl,rfl⟩
  rw [hl]
  simp only [Option.getD_some,qbu hne,qww,qbt hne,qbc,Option.isSome_some,List.length_cons,List.length_nil,List.take_succ_cons,List.take_zero,List.map_nil,qbw,List.drop_zero,List.drop_succ_cons,List.map_cons,qc4,napp_ren,VO.ren,AV.ren,AV.rens,sg',List.set_cons_zero]
  exact hq)
def qp3 (p:Int) (l:List N) (t:N):N:=.mk 4 p 0 [] (l ++ [t])
def qdq (f:Nat) (c:K):K×Option N :=
 if (qt (qbe f) c).2.isSome = true then ((qbe f (qt (qbe f) c).1).1,(qbe f (qt (qbe f) c).1).2.map (qp3 (qp c).pos ((qt (qbe f) c).2.getD [])))
 else ((qt (qbe f) c).1,none)
theorem qu1 {c:K} {L:List Ent} {p:Int} {l:List N} {t:N} {b:Bool} {Q:List Ent->VO->Prop} (hq:Q (curE c :: L) (.val (resP (qof (qp3 p l t) b)))) :
 VApp Tryz.prog (curE c :: L) (.fn 147 [] []) [.ptr 0 0,.agg [.int .i64 4,.int .i64 p,.int .i64 0,.str [],.sl 5 (encs l ++ [enc t])],.bool b] Q:=by
 have h:=qzj (n:=qp3 p l t) hq
 simpa only [qp3,enc,ql] using h
theorem q2m {c:K} {L:List Ent} {p:Int} {t:N} {b:Bool} {Q:List Ent->VO->Prop} (hq:Q (curE c :: L) (.val (resP (qof (qp3 p [] t) b)))) :
 VApp Tryz.prog (curE c :: L) (.fn 147 [] []) [.ptr 0 0,.agg [.int .i64 4,.int .i64 p,.int .i64 0,.str [],.sl 5 [enc t]],.bool b] Q:=qu1 (l:=[]) hq
theorem qzd {r:Option N} {p:Int} {l:List N}:qof (qp3 p l (r.getD N0)) r.isSome = r.map (qp3 p l):=qxl
theorem q0v {rec:K->K×Option N} (hm:∀ c,Mon c (rec c).1) (many:Bool):∀ (f:Nat) (c:K) (acc l:List N),(qdc rec many f c acc).2 = some l->l.length≤acc.length + rest c
 | 0,c,acc,l=>fun h=>by cases h
 | f + 1, c, acc, l => fun h => by
   rw [qdc] at h
   split at h
   ·rename_i hs
    have h1:=qky hm hs
    split at h
    ·have h2:=q0v hm many f _ _ _ h
     have h3:=(qm (qz rec c).1 [44]).2.1
     simp only [List.length_append,List.length_cons,List.length_nil] at h2
     omega
    ·cases h
     simp only [List.length_append,List.length_cons,List.length_nil]
     omega
   ·cases h
theorem qjw {m:Bool} {r:K×Option (List N)} {l:List N} (h:(qel m r).2 = some l):r.2 = some l:=by
 unfold qel at h
 repeat' split at h
 all_goals first | exact h | cases h
theorem qpm {rec:K->K×Option N} (hm:∀ c,Mon c (rec c).1) {c:K} {l:List N} (h:(qt rec c).2 = some l):l.length≤rest c:=by
 unfold qt at h
 split at h
 ·have h:=qjw h
  unfold qek at h
  split at h
  ·cases h;exact Nat.zero_le _
  ·have h1:=q0v hm _ _ _ _ _ h
   have h2:=(qm c [40]).2.1
   simp only [List.length_nil] at h1
   omega
 ·simp only at h
  split at h
  ·cases h
  ·cases h;exact Nat.zero_le _
theorem q7l (f:Nat) (c:K) (hg:c.good) (hr:rest c < f):qb7 Tryz.prog 92 (curE c) (curE (qdq f c).1) [.ptr 0 0] (resP (qdq f c).2):=by
 have hm:=qbv f
 have hP:=qtm hm (qyj f) c hg (by omega)
 have g1:(qt (qbe f) c).1.good:=(qfd hm c).1 hg
 have hr1:rest (qt (qbe f) c).1 < f:=by have:=(qfd hm c).2.1;omega
 refine qq c0du 1 (by simp) (by simp) ?_
 unfold qdq
 cases ho:(qt (qbe f) c).2 with
 | none =>
   have h0:(qt (qbe f) c).2.getD [] = []:=by rw [ho];rfl
   repeat' (first | refine vs_ ?_ | ((first | refine vr_ ?_ | fail)<;>(try simp only [ho,Option.isSome_none,go_sem,↓reduceIte])) | ((first | (refine cs_ ?_ ?_<;>intro hc) | refine cj_ ?_ | fail | refine qb2 ?_ | refine qoe hP h0 ?_)<;>(try refine ev_ ?_)) | with_reducible exact ti_)
   rw [qed];rfl
 | some l =>
   have hlen:=qpm hm ho
   have hlen2:=hg.rest
   by_cases h0:l = []
   ·subst h0
    have h0:(qt (qbe f) c).2.getD [] = []:=by rw [ho];rfl
    have hcap:qfe 1 64:=capN (by omega)
    repeat' (first | refine vs_ ?_ | ((first | refine vr_ ?_ | fail)<;>(try simp only [ho,Option.isSome_some,go_sem,↓reduceIte])) | ((first | (refine cs_ ?_ ?_<;>intro hc) | refine cj_ ?_ | fail | refine qb2 ?_ | refine qoe hP h0 ?_ | refine qcs (qyj f _ g1 hr1) rfl ?_ | refine q2m ?_)<;>(try refine ev_ ?_)) | with_reducible exact ti_)
    rw [qzd];rfl
   ·have hcap:qfe (l.length + 1) 64:=capN (by unfold rest at hlen;omega)
    repeat' (first | refine vs_ ?_ | ((first | refine vr_ ?_ | fail)<;>(try simp only [ho,Option.isSome_some,go_sem,↓reduceIte])) | ((first | (refine cs_ ?_ ?_<;>intro hc) | refine cj_ ?_ | fail | refine qb2 ?_ | refine qvn hP ho h0 ?_ | refine qcs (qyj f _ g1 hr1) rfl ?_ | refine qu1 ?_)<;>(try refine ev_ ?_)) | with_reducible exact ti_)
    rw [qzd];rfl

/-! The size of what is read. -/
theorem qfv:∀ (a b:List N),szs (a ++ b) = szs a + szs b
 | [],b=>by simp [szs]
 | x :: a,b=>by rw [List.cons_append,szs,szs,qfv a b];omega
theorem q37 (c:K) (k:Int) (ks:List N):sz (qgr c k ks) = szs ks + 1:=by rw [qg1];rfl
section
variable {rec:K->K×Option N} (hm:∀ c,Mon c (rec c).1) (ih:∀ c n,(rec c).2 = some n->sz n + rest (rec c).1≤rest c)
include hm ih
omit hm in
theorem qlv {c:K} {n:N} (h:(qbg rec c).2 = some n):sz n + rest (qbg rec c).1≤rest c:=by
 unfold qbg at h ⊢
 split at h
 ·rename_i h1
  rw [if_pos h1]
  cases h
  have:=qbb (c:=c) (by omega)
  rw [q37];simp only [szs];omega
 ·rename_i h1
  rw [if_neg h1]
  split at h
  ·rename_i h2
   rw [if_pos h2]
   cases h
   have:=qbb (c:=c) (by omega)
   rw [q37];simp only [szs];omega
  ·rename_i h2
   rw [if_neg h2]
   split at h
   ·rename_i h3
    rw [if_pos h3]
    split at h
    ·rename_i h4
     rw [if_pos h4]
     have hp:=qbb (c:=(qb c).1) (by rw [qev h4];exact qdp h3)
     have h0:=(qo c).2.1
     split at h
     ·rename_i h5
      rw [if_pos h5]
      simp only at h ⊢
      split at h
      ·have h6:=ih _ _ h
       have h7:=(qe (rec (qg (qb c).1)).1 [41]).2.1
       have h8:=(qba (qh (rec (qg (qb c).1)).1 [41]).1).2.1
       omega
      ·cases h
     ·cases h
    ·cases h
   ·cases h
omit hm in
theorem qut:∀ (f:Nat) (c:K) (acc l:List N),(qcq rec f c acc).2 = some l->szs l + rest (qcq rec f c acc).1≤szs acc + rest c
 | 0,c,acc,l=>fun h=>by cases h
 | f + 1, c, acc, l => fun h => by
   rw [qcq] at h ⊢
   split at h
   ·rename_i h1
    rw [if_pos h1]
    split at h
    ·rename_i h2
     rw [if_pos h2]
     obtain ⟨n,hn⟩:=Option.isSome_iff_exists.1 h2
     have h3:=qut f _ _ _ h
     have h4:=qlv ih hn
     rw [qfv,hn] at h3
     simp only [Option.getD_some,szs] at h3
     rw [hn]
     simp only [Option.getD_some]
     omega
    ·cases h
   ·rename_i h1
    rw [if_neg h1]
    cases h
    exact Nat.le_refl _
omit hm in
theorem qyg {c:K} {n:N} (h:(qbq rec c).2 = some n):sz n + rest (qbq rec c).1≤rest c:=by
 unfold qbq at h ⊢
 split at h
 ·rename_i h1
  rw [if_pos h1]
  obtain ⟨l,hl,rfl⟩:=Option.map_eq_some_iff.1 h
  have h2:=qut ih _ _ _ _ hl
  have h3:=qbb (c:=c) (by omega)
  rw [q37]
  simp only [szs] at h2 ⊢
  omega
 ·rename_i h1
  rw [if_neg h1]
  exact qlv ih h
omit hm in
theorem q74 {c:K} {n:N} (h:(qz rec c).2 = some n):sz n + rest (qz rec c).1≤rest c:=by
 unfold qz at h ⊢
 split at h
 ·rename_i h1
  rw [if_pos h1]
  obtain ⟨m,hk,rfl⟩:=Option.map_eq_some_iff.1 h
  have h2:=qlv ih hk
  obtain ⟨e1,e2⟩:=qg7 h1
  rw [(qj9 h1).1] at h2 ⊢
  have h3:=qbb (c:=c) (by omega)
  have:sz (qp0 (qen c 2) m) = sz m + 1:=by rw [qg1];simp [qp0,N.kids,szs]
  simp only at h2 ⊢
  omega
 ·cases h
omit hm in
theorem qsr (many:Bool):∀ (f:Nat) (c:K) (acc l:List N),(qdc rec many f c acc).2 = some l->szs l + rest (qdc rec many f c acc).1≤szs acc + rest c
 | 0,c,acc,l=>fun h=>by cases h
 | f + 1, c, acc, l => fun h => by
   rw [qdc] at h ⊢
   split at h
   ·rename_i h1
    rw [if_pos h1]
    obtain ⟨n,hn⟩:=Option.isSome_iff_exists.1 h1
    have h4:=q74 ih hn
    split at h
    ·rename_i h2
     rw [if_pos h2]
     have h3:=qsr many f _ _ _ h
     have h5:=(qm (qz rec c).1 [44]).2.1
     rw [qfv,hn] at h3
     simp only [Option.getD_some,szs] at h3
     rw [hn]
     simp only [Option.getD_some]
     omega
    ·rename_i h2
     rw [if_neg h2]
     cases h
     rw [hn,qfv]
     simp only [Option.getD_some,szs]
     omega
   ·cases h
end
theorem qns:∀ (f:Nat) (c:K) (n:N),(qbe f c).2 = some n->sz n + rest (qbe f c).1≤rest c
 | 0,_,_=>fun h=>by cases h
 | f + 1, c, n => fun h => by
   have ih:=qns f
   have h0:=(qo c).2.1
   rw [qbe] at h ⊢
   split at h
   ·rename_i h1
    rw [if_pos h1]
    split at h
    ·rename_i h2
     rw [if_pos h2]
     obtain ⟨m,hm⟩:=Option.isSome_iff_exists.1 h2
     have h3:=qyg ih hm
     split at h
     ·rename_i h4
      rw [if_pos h4]
      obtain ⟨q,hq,rfl⟩:=Option.map_eq_some_iff.1 h
      have h5:=ih _ _ hq
      have h6:=(qba (qbe f (qf (qbq (qbe f) (qb c).1).1 [45,62]).1).1).2.1
      have h7:rest (qf (qbq (qbe f) (qb c).1).1 [45,62]).1 + 1≤rest (qbq (qbe f) (qb c).1).1:=by
       unfold qf at h4 ⊢
       split at h4
       ·rename_i h8
        rw [if_pos h8]
        have:=qbb (qdp h8)
        simp only;omega
       ·cases h4
      have:sz (qiz ((qbq (qbe f) (qb c).1).2.getD N0) q) = sz m + sz q + 1:=by rw [qg1,hm];simp [qiz,N.kids,szs]
      simp only
      omega
     ·rename_i h4
      rw [if_neg h4]
      have h5:=(qba (qbq (qbe f) (qb c).1).1).2.1
      have h6:=qyg ih h
      simp only
      omega
    ·cases h
   ·cases h
theorem q9c {f:Nat} {c:K} {n:N} (h:(qdq f c).2 = some n):sz n + rest (qdq f c).1≤rest c + 1:=by
 unfold qdq at h ⊢
 split at h
 ·rename_i h1
  rw [if_pos h1]
  obtain ⟨l,hl⟩:=Option.isSome_iff_exists.1 h1
  obtain ⟨q,hq,rfl⟩:=Option.map_eq_some_iff.1 h
  have h2:=qns f _ _ hq
  rw [hl]
  have h3:szs l + rest (qt (qbe f) c).1≤rest c:=by
   have hx:=hl
   unfold qt at hx ⊢
   split at hx
   ·rename_i ha
    rw [if_pos ha]
    have h5:=qjw hx
    have h6:szs l + rest (qek (qbe f) c).1≤rest c:=by
     unfold qek at h5 ⊢
     have ht:=(qm c [40]).2.1
     split at h5
     ·rename_i hb
      rw [if_pos hb]
      cases h5
      simp only [szs];omega
     ·rename_i hb
      rw [if_neg hb]
      have:=qsr (qns f) _ _ _ _ _ h5
      simp only [szs] at this
      omega
    have h7:rest (qel (qf c [40]).2 (qek (qbe f) c)).1≤rest (qek (qbe f) c).1:=by
     unfold qel
     split
     ·split
      ·split
       ·exact Nat.le_trans (qe _ _).2.1 (qe _ _).2.1
       ·exact (qe _ _).2.1
      ·exact (qe _ _).2.1
     ·exact Nat.le_refl _
    omega
   ·rename_i ha
    rw [if_neg ha]
    simp only at hx ⊢
    split at hx
    ·cases hx
    ·cases hx;simp only [szs];omega
  have:sz (qp3 (qp c).pos l q) = szs l + sz q + 1:=by rw [qg1];simp [qp3,N.kids,qfv,szs]
  simp only [Option.getD_some]
  omega
 ·cases h
theorem qbbd {l:List T} (h:l.length≤1048577):(newK l).good:=⟨Nat.zero_le _,Nat.le_trans (ql0 l) h,Nat.zero_le _⟩
set_option maxRecDepth 4000

def qyz (c:K) (n:N):N×Int×Int :=
 if (ql9 c).2 = 0 then if depR n > 100 then (N0,n.pos,2) else (n,0,0) else (N0,(ql9 c).1,(ql9 c).2)
def q3o (rd:K->K×Option N) (s:List UInt8):N×Int×Int :=
 if (lexV s).2.2 = 0 then qyz (rd (newK (lexV s).1)).1 ((rd (newK (lexV s).1)).2.getD N0)
 else (N0,(lexV s).2.1,(lexV s).2.2)
def resV (r:N×Int×Int):AV:=.tup [enc r.1,.int .i64 r.2.1,.int .i64 r.2.2]
attribute [go_sem] resV lexR
theorem qb00 {c:K} (h:(ql9 c).2 = 0):c.err = 0:=by
 by_cases he:c.err = 0
 ·exact he
 ·rw [qt6 he] at h;exact absurd h he
theorem qmj (f:Nat) (c:K):Mon c (qdq f c).1:=by
 have hm:=qbv f
 unfold qdq
 split
 ·exact (qfd hm c).trans (hm _)
 ·exact qfd hm c
end Go.Proofs.YtlmcofjcpadmiaaGreat
