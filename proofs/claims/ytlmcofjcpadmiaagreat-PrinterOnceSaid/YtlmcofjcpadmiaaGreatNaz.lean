/- A text of this proof. -/
import Derived.Test.YtlmcofjcpadmiaaGreatNay
set_option linter.unusedVariables false
set_option linter.unusedSimpArgs false

/- patterns: what is read (plain); the program -/
set_option maxRecDepth 4000
namespace Go.Proofs.YtlmcofjcpadmiaaGreat
open Go Go.RowKit Go.V

/-! Patterns. -/
def qhc (c:K):Option N :=
 if (qp c).kind = 1 then some (.mk 11 (qp c).pos 0 (qp c).text [])
 else if (qp c).kind = 2 then some (.mk 14 (qp c).pos 0 (qp c).text [])
 else if (qp c).kind = 3 then some (.mk 13 (qp c).pos (qp c).num [] [])
 else if isK c [95] = true then some (.mk 12 (qp c).pos 0 [] [])
 else none
def begP (c:K):Bool:=(qhc c).isSome || isK c [40]
def qbk (rec:K->K×Option N) (c:K):K×Option N :=
 if (qhc c).isSome = true then (qg c,qhc c)
 else if isK c [40] = true then
  if (qb c).2 = true then
   if (rec (qg (qb c).1)).2.isSome = true then
    if (qh (rec (qg (qb c).1)).1 [41]).2 = true then (qcn (qh (rec (qg (qb c).1)).1 [41]).1,(rec (qg (qb c).1)).2)
    else ((qh (rec (qg (qb c).1)).1 [41]).1,none)
   else ((rec (qg (qb c).1)).1,none)
  else ((qb c).1,none)
 else (qd9 c 5,none)
def qew (rec:K->K×Option N):Nat->K->List N->K×Option (List N)
 | 0,c,acc=>(c,none)
 | f + 1, c, acc =>
   if begP c = true then
    if (qbk rec c).2.isSome = true then qew rec f (qbk rec c).1 (acc ++ [(qbk rec c).2.getD N0])
    else ((qbk rec c).1,none)
   else (c,some acc)
def qb6:Nat->K->K×Option N
 | 0,c=>(c,none)
 | f + 1, c =>
   if (qb c).2 = true then
    if (qp (qb c).1).kind = 2 then
     (qcn (qew (qb6 f) (rest (qb c).1 + 1) (qg (qb c).1) []).1,(qew (qb6 f) (rest (qb c).1 + 1) (qg (qb c).1) []).2.map fun ks=>.mk 14 (qp (qb c).1).pos 0 (qp (qb c).1).text ks)
    else (qcn (qbk (qb6 f) (qb c).1).1,(qbk (qb6 f) (qb c).1).2)
   else ((qb c).1,none)

theorem qm7 {c:K} {n:N} (h:qhc c = some n):(qp c).kind≠0:=by
 unfold qhc at h
 split at h
 ·omega
 ·split at h
  ·omega
  ·split at h
   ·omega
   ·split at h
    ·exact qdp (by assumption)
    ·cases h
section
variable {rec:K->K×Option N} (hm:∀ c,Mon c (rec c).1)
include hm
theorem qjs (c:K):Mon c (qbk rec c).1:=by
 unfold qbk
 split
 ·exact qbj c
 ·split
  ·split
   ·have h1:=((qo c).trans (qbj _)).trans (hm _)
    split
    ·split
     ·exact (h1.trans (qe _ _)).trans (qba _)
     ·exact h1.trans (qe _ _)
    ·exact h1
   ·exact qo c
  ·exact qc3 c 5
theorem qtj {c:K} (h:(qbk rec c).2.isSome = true):rest (qbk rec c).1 < rest c:=by
 unfold qbk at h ⊢
 split at h
 ·rename_i hl
  rw [if_pos hl]
  obtain ⟨n,hn⟩:=Option.isSome_iff_exists.1 hl
  have:=qbb (qm7 hn)
  simp only;omega
 ·rename_i hl
  rw [if_neg hl]
  split at h
  ·rename_i hk
   rw [if_pos hk]
   split at h
   ·rename_i he
    rw [if_pos he]
    have hp:=qbb (c:=(qb c).1) (by rw [qev he];exact qdp hk)
    have h0:=(qo c).2.1
    have h1:=(hm (qg (qb c).1)).2.1
    split at h
    ·rename_i hr
     rw [if_pos hr]
     have h2:=(qe (rec (qg (qb c).1)).1 [41]).2.1
     split at h
     ·rename_i hw
      rw [if_pos hw]
      have h3:=(qba (qh (rec (qg (qb c).1)).1 [41]).1).2.1
      simp only;omega
     ·cases h
    ·cases h
   ·cases h
  ·cases h
theorem qx3:∀ (f:Nat) (c:K) (acc:List N),Mon c (qew rec f c acc).1
 | 0,c,acc=>Mon.refl c
 | f + 1, c, acc => by
   rw [qew]
   split
   ·split
    ·exact (qjs hm c).trans (qx3 f _ _)
    ·exact qjs hm c
   ·exact Mon.refl c
end
theorem qes:∀ (f:Nat) (c:K),Mon c (qb6 f c).1
 | 0,c=>Mon.refl c
 | f + 1, c => by
   rw [qb6]
   split
   ·split
    ·exact (((qo c).trans (qbj _)).trans (qx3 (qes f) _ _ _)).trans (qba _)
    ·exact ((qo c).trans (qjs (qes f) _)).trans (qba _)
   ·exact qo c
theorem qbco (c:K):qb7 Tryz.prog 153 (curE c) (curE c) [.ptr 0 0] (resP (qhc c)):=by
 refine qq c0dq 1 (by simp) (by simp) ?_
 repeat' (first | refine vs_ ?_ | ((first | refine vr_ ?_ | refine qb2 ?_ | refine a_Is ?_ | (refine cs_ ?_ ?_<;>intro hc) | refine cj_ ?_ | fail)<;>(try refine ev_ ?_)) | with_reducible exact ti_)
 all_goals (unfold qhc;simp_all [enc,encs,N0])
theorem q9r {c:K} {L:List Ent} {Q:List Ent->VO->Prop} (hq:Q (curE c :: L) (.val (resP (qhc c)))):VApp Tryz.prog (curE c :: L) (.fn 153 [] []) [.ptr 0 0] Q:=qcs (qbco c) rfl hq
theorem q3v (c:K):qb7 Tryz.prog 97 (curE c) (curE c) [.ptr 0 0] (.bool (begP c)):=by
 refine qq c0dr 1 (by simp) (by simp) ?_
 repeat' (first | refine vs_ ?_ | ((first | refine vr_ ?_ | refine q9r ?_ | refine a_Is ?_ | (refine cs_ ?_ ?_<;>intro hc) | refine cj_ ?_ | fail)<;>(try refine ev_ ?_)) | with_reducible exact ti_)
 all_goals (unfold begP;simp_all)
theorem qboy {c:K} {L:List Ent} {Q:List Ent->VO->Prop} (hq:Q (curE c :: L) (.val (.bool (begP c)))):VApp Tryz.prog (curE c :: L) (.fn 97 [] []) [.ptr 0 0] Q:=qb4 (q3v c) (q9 _ _) (q9 _ _) rfl rfl fun _=>hq
theorem qt0 {rec:K->K×Option N} {b:Nat} (hm:∀ c,Mon c (rec c).1) (ih:∀ c,c.good->rest c < b->qb7 Tryz.prog 54 (curE c) (curE (rec c).1) [.ptr 0 0] (resP (rec c).2)) (c:K) (hg:c.good) (hr:rest c≤b) :
 qb7 Tryz.prog 96 (curE c) (curE (qbk rec c).1) [.ptr 0 0] (resP (qbk rec c).2):=by
 have g1:(qb c).1.good:=(qo c).1 hg
 have g2:(qg (qb c).1).good:=(qbj _).1 g1
 have g3:(rec (qg (qb c).1)).1.good:=(hm _).1 g2
 have g4:(qh (rec (qg (qb c).1)).1 [41]).1.good:=(qe _ _).1 g3
 have hrr:isK c [40] = true->(qb c).2 = true->rest (qg (qb c).1) < b:=fun h1 h2=>by
  have:=qbb (c:=(qb c).1) (by rw [qev h2];exact qdp h1)
  have:=(qo c).2.1
  omega
 refine qq c0ds 1 (by simp) (by simp) ?_
 repeat' (first | refine vs_ ?_ | ((first | refine vr_ ?_ | refine q9r ?_ | refine a_Is ?_ | refine qvm ?_ | refine qiq ?_ | refine qk5 hg.ok ?_ | refine qk5 g1.ok ?_ | refine qcs (ih _ g2 (hrr (by assumption) (by assumption))) rfl ?_ | refine qcc g3.ok ?_ | refine qfx g4.2.2 ?_ | (refine cs_ ?_ ?_<;>intro hc) | refine cj_ ?_ | fail)<;>(try refine ev_ ?_)) | with_reducible exact ti_)
 all_goals (unfold qbk;simp only [*,qed,Int.reduceEq,if_true,if_false,reduceIte,Bool.false_eq_true,Option.getD_none,Option.getD_some,Option.isSome_none,Option.isSome_some,and_self,true_and,and_true];try rfl)
def conZ (c:K):AV:=.tup [.agg [.int .i64 14,.int .i64 (qp c).pos,.int .i64 0,.str (qp c).text,.nils],.bool true]
attribute [go_sem] conZ
theorem qbf7 (k:Nat) (c:K):(conZ c).bd k = true:=rfl
theorem q7f (c:K) (hc:(qp c).kind = 2):qb7 Tryz.prog 153 (curE c) (curE c) [.ptr 0 0] (conZ c):=by
 refine qdx c0dq 1 (by simp) (by simp) ?_
 repeat' (first | refine vs_ ?_ | ((first | refine vr_ ?_ | fail)<;>(try simp only [hc,Int.reduceEq,go_sem,↓reduceIte])) | ((first | (refine cs_ ?_ ?_<;>intro hc) | refine cj_ ?_ | fail | refine qb2 ?_ | refine a_Is ?_)<;>(try refine ev_ ?_)) | with_reducible exact ti_)
theorem q8m (c:K) (hg:c.good) (hc:(qp c).kind = 2):qb7 Tryz.prog 96 (curE c) (curE (qg c)) [.ptr 0 0] (conZ c):=by
 refine qdx c0ds 1 (by simp) (by simp) ?_
 repeat' (first | refine vs_ ?_ | ((first | refine vr_ ?_ | fail)<;>(try simp only [hc,go_sem,↓reduceIte])) | ((first | (refine cs_ ?_ ?_<;>intro hc) | refine cj_ ?_ | fail | refine qb4 (q7f c hc) (q9 _ _) (q9 _ _) rfl (qbf7 _ _) fun _=>?_ | refine qk5 hg.ok ?_)<;>(try refine ev_ ?_)) | with_reducible exact ti_)
def qbf0 (p:Int) (t:List UInt8) (x:Bool×Nat×K×List N):AF×List Ent :=
 (⟨[(0, .ptr 0 0), (2, .ptr 1 0), (4, .bool true), (5, .ptr 2 0), (6, .bool x.1)], []⟩,
   curE x.2.2.1 :: .blk [.int .i64 0,.int .i64 0,.int .i64 0,.str [],.nils] :: .blk [.int .i64 14,.int .i64 p,.int .i64 0,.str t,accV 3 (encs x.2.2.2)] :: accE 5 (encs x.2.2.2))
theorem q0g {f:Nat} (ih:∀ c,c.good->rest c < f->qb7 Tryz.prog 54 (curE c) (curE (qb6 f c).1) [.ptr 0 0] (resP (qb6 f c).2)) (c:K) (hg:c.good) (hr:rest c < f + 1) :
 qb7 Tryz.prog 54 (curE c) (curE (qb6 (f + 1) c).1) [.ptr 0 0] (resP (qb6 (f + 1) c).2):=by
 have hm:=qes f
 have g1:(qb c).1.good:=(qo c).1 hg
 have hr1:rest (qb c).1≤f:=by have:=(qo c).2.1;omega
 refine qq c0dt 1 (by simp) (by simp) ?_
 by_cases hk:(qb c).2 = true∧(qp (qb c).1).kind = 2
 ·obtain ⟨hk1,hk2⟩:=hk
  have g2:(qg (qb c).1).good:=(qbj _).1 g1
  have hpa:qb6 (f + 1) c = (qcn (qew (qb6 f) (rest (qb c).1 + 1) (qg (qb c).1) []).1,(qew (qb6 f) (rest (qb c).1 + 1) (qg (qb c).1) []).2.map fun ks=>.mk 14 (qp (qb c).1).pos 0 (qp (qb c).1).text ks):=by rw [qb6,if_pos hk1,if_pos hk2]
  rw [hpa]
  clear hpa
  generalize htg:qew (qb6 f) (rest (qb c).1 + 1) (qg (qb c).1) [] = tg
  have hmt:Mon (qg (qb c).1) tg.1:=htg ▸ qx3 hm _ _ _
  have g3:tg.1.good:=hmt.1 g2
  repeat' (first | refine vs_ ?_ | ((first | refine vr_ ?_ | fail)<;>(try simp only [hk1,hk2,Int.reduceEq,go_sem,↓reduceIte])) | ((first | (refine cs_ ?_ ?_<;>intro hc) | refine cj_ ?_ | fail | refine qiq ?_ | refine qb2 ?_ | refine qb4 (q8m _ g1 hk2) (q9 _ _) (q9 _ _) rfl (qbf7 _ _) fun _=>?_)<;>(try refine ev_ ?_)) | with_reducible exact ti_)
  refine qcm (S:=Bool×Nat×K×List N) (fun x=>x.2.2.1.good∧rest x.2.2.1≤f∧(x.1 = true->qew (qb6 f) x.2.1 x.2.2.1 x.2.2.2 = tg∧rest x.2.2.1 < x.2.1)∧(x.1 = false->tg = (x.2.2.1,none))∧x.2.2.2.length + rest x.2.2.1≤1048577)
   (qbf0 (qp (qb c).1).pos (qp (qb c).1).text) (fun x=>if x.1 = true then rest x.2.2.1 + 1 else 0) ?_ ?_
  ·have hrn:=(qbj (qb c).1).2.1
   refine qb1 (true,rest (qb c).1 + 1,qg (qb c).1,[]) [0,1,2] ⟨g2,by simp only;omega,fun _=>⟨htg,by simp only;omega⟩,(by intro h;cases h),?_⟩ rfl (by simp) ?_ ?_ ?_
   ·have h9:=g2.rest
    unfold rest
    simp only [List.length_nil]
    omega
   all_goals simp only [qbf0,encs,qbl,qbo]
   all_goals (refine ev_ ?_;(try with_reducible exact ti_))
  ·rintro ⟨b,fu,d,acc⟩ ⟨i1,i2,i3,i4,i5⟩
   simp only at i1 i2 i3 i4 i5
   unfold qbf0
   cases b with
   | false =>
     have i4:=i4 rfl
     subst i4
     repeat' (first | refine vs_ ?_ | ((first | refine vr_ ?_ | refine qfx i1.2.2 ?_ | (refine cs_ ?_ ?_<;>intro hc) | refine cj_ ?_ | fail)<;>(try refine ev_ ?_)) | with_reducible exact ti_)
     simp only [Option.map_none,Option.getD_none,Option.isSome_none,qed]
   | true =>
     have i6:=(i3 rfl).2
     replace i3:=(i3 rfl).1
     clear i4
     obtain ⟨fu,rfl⟩:∃ k,fu = k + 1:=⟨fu - 1,by omega⟩
     rw [qew] at i3
     have hcap:qfe (acc.length + 1) 64:=capN (by omega)
     have j1:(qbk (qb6 f) d).1.good:=(qjs hm d).1 i1
     have j2:rest (qbk (qb6 f) d).1≤rest d:=(qjs hm d).2.1
     by_cases h0:acc = []
     ·subst h0
      simp only [encs,qbl,qbo]
      repeat' (first | refine vs_ ?_ | ((first | refine vr_ ?_ | refine qboy ?_ | refine qcs (qt0 hm ih _ i1 i2) rfl ?_ | refine qfx i1.2.2 ?_ | (refine cs_ ?_ ?_<;>intro hc) | refine cj_ ?_ | fail)<;>(try refine ev_ ?_)) | with_reducible exact ti_)
      ·have hb:begP d = true:=by assumption
       have hs:(qbk (qb6 f) d).2.isSome = true:=by assumption
       rw [if_pos hb,if_pos hs] at i3
       have hlt:=qtj hm hs
       refine qb1 (true,fu,(qbk (qb6 f) d).1,[] ++ [(qbk (qb6 f) d).2.getD N0]) [0,1,2,4] ⟨⟨j1,by simp only;omega,fun _=>⟨i3,by simp only;omega⟩,(by intro h;cases h),?_⟩,by simp only [if_true];omega⟩ rfl (by simp) ?_ ?_ ?_
       ·simp only [List.length_append,List.length_cons,List.length_nil];omega
       all_goals simp only [← ql,qgi,qgc,List.nil_append,encs,qh5,qig]
       all_goals (refine ev_ ?_;(try with_reducible exact ti_))
      ·have hb:begP d = true:=by assumption
       have hs:(qbk (qb6 f) d).2.isSome = false:=by assumption
       rw [if_pos hb,if_neg (by rw [hs];simp)] at i3
       refine qb1 (false,0,(qbk (qb6 f) d).1,[]) [0,1,2] ⟨⟨j1,by simp only;omega,(by intro h;cases h),fun _=>i3.symm,by simp only;omega⟩,by simp only [if_true,Bool.false_eq_true,if_false];omega⟩ rfl (by simp) ?_ ?_ ?_
       all_goals simp only [encs,qbl,qbo]
       all_goals (refine ev_ ?_;(try with_reducible exact ti_))
      ·have hb:begP d = false:=by assumption
       rw [if_neg (by rw [hb];simp)] at i3
       subst i3
       simp only [Option.map_some,Option.getD_some,Option.isSome_some,enc,encs,and_self]
     ·have hne:=qbf h0
      simp only [qbt hne,qbu hne,qbc]
      repeat' (first | refine vs_ ?_ | ((first | refine vr_ ?_ | refine qboy ?_ | refine qcs (qt0 hm ih _ i1 i2) rfl ?_ | refine qfx i1.2.2 ?_ | (refine cs_ ?_ ?_<;>intro hc) | refine cj_ ?_ | fail)<;>(try refine ev_ ?_)) | with_reducible exact ti_)
      ·have hb:begP d = true:=by assumption
       have hs:(qbk (qb6 f) d).2.isSome = true:=by assumption
       rw [if_pos hb,if_pos hs] at i3
       have hlt:=qtj hm hs
       refine qb1 (true,fu,(qbk (qb6 f) d).1,acc ++ [(qbk (qb6 f) d).2.getD N0]) [0,1,2,5] ⟨⟨j1,by simp only;omega,fun _=>⟨i3,by simp only;omega⟩,(by intro h;cases h),?_⟩,by simp only [if_true];omega⟩ rfl (by simp) ?_ ?_ ?_
       ·simp only [List.length_append,List.length_cons,List.length_nil];omega
       all_goals simp only [← ql,qgi,qgc,List.nil_append,encs,qh5,qig]
       all_goals (refine ev_ ?_;(try with_reducible exact ti_))
       rw [ql,q7,qbs];exact ⟨rfl,rfl⟩
      ·have hb:begP d = true:=by assumption
       have hs:(qbk (qb6 f) d).2.isSome = false:=by assumption
       rw [if_pos hb,if_neg (by rw [hs];simp)] at i3
       refine qb1 (false,0,(qbk (qb6 f) d).1,acc) [0,1,2,3] ⟨⟨j1,by simp only;omega,(by intro h;cases h),fun _=>i3.symm,by simp only;omega⟩,by simp only [if_true,Bool.false_eq_true,if_false];omega⟩ rfl (by simp) ?_ ?_ ?_
       all_goals simp only [qbt hne,qbu hne,qbc]
       all_goals (refine ev_ ?_;(try with_reducible exact ti_))
      ·have hb:begP d = false:=by assumption
       rw [if_neg (by rw [hb];simp)] at i3
       subst i3
       simp only [Option.map_some,Option.getD_some,Option.isSome_some,enc,encs,and_self]
 ·by_cases hk1:(qb c).2 = true
  ·have hk2:¬ (qp (qb c).1).kind = 2:=fun h=>hk ⟨hk1,h⟩
   have j1:(qbk (qb6 f) (qb c).1).1.good:=(qjs hm _).1 g1
   have hpa:qb6 (f + 1) c = (qcn (qbk (qb6 f) (qb c).1).1,(qbk (qb6 f) (qb c).1).2):=by rw [qb6,if_pos hk1,if_neg hk2]
   rw [hpa]
   clear hpa
   repeat' (first | refine vs_ ?_ | ((first | refine vr_ ?_ | fail)<;>(try simp only [hk1,hk2,go_sem,↓reduceIte])) | ((first | (refine cs_ ?_ ?_<;>intro hc) | refine cj_ ?_ | fail | refine qiq ?_ | refine qb2 ?_ | refine qcs (qt0 hm ih _ g1 hr1) rfl ?_)<;>(try refine ev_ ?_)) | with_reducible exact ti_)
   generalize hr':qbk (qb6 f) (qb c).1 = r at j1
   refine qcm (S:=Unit) (fun _=>True) (fun _=>(⟨[(0,.ptr 0 0),(2,.ptr 1 0),(4,.bool false),(5,.ptr 2 0),(6,.bool r.2.isSome)],[]⟩,[curE r.1,.blk [.int .i64 0,.int .i64 0,.int .i64 0,.str [],.nils],.blk (enc (r.2.getD N0)).cells])) (fun _=>0) ?_ ?_
   ·refine qb1 () [0,1,2] trivial rfl (by simp) ?_ ?_ ?_<;>(try refine ev_ ?_)<;>(try with_reducible exact ti_)<;>(try simp (disch:=omega) only [qs,and_true,true_and])
   ·intro _ _
    repeat' (first | refine vs_ ?_ | ((first | refine vr_ ?_ | refine qfx j1.2.2 ?_ | (refine cs_ ?_ ?_<;>intro hc) | refine cj_ ?_ | fail)<;>(try refine ev_ ?_)) | with_reducible exact ti_)
    have hs:r.2 = none:=by
     have:r.2.isSome = false:=by assumption
     revert this
     cases r.2<;>simp
    rw [hs,qed];rfl
  ·have hk1:(qb c).2 = false:=by simpa using hk1
   have hpa:qb6 (f + 1) c = ((qb c).1,none):=by rw [qb6,if_neg (by rw [hk1];simp)]
   rw [hpa]
   repeat' (first | refine vs_ ?_ | ((first | refine vr_ ?_ | fail)<;>(try simp only [hk1,go_sem,↓reduceIte])) | ((first | (refine cs_ ?_ ?_<;>intro hc) | refine cj_ ?_ | fail | refine qiq ?_)<;>(try refine ev_ ?_)) | with_reducible exact ti_)
   rw [qed];rfl
theorem qbx5 (f:Nat):∀ c:K,c.good->rest c < f->qb7 Tryz.prog 54 (curE c) (curE (qb6 f c).1) [.ptr 0 0] (resP (qb6 f c).2):=by
 induction f with
 | zero=>exact fun c _ h=>absurd h (by omega)
 | succ f ih=>exact q0g ih
end Go.Proofs.YtlmcofjcpadmiaaGreat
