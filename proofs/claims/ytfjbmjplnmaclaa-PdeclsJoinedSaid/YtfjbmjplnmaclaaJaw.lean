/- A text of this proof. -/
import Derived.Test.YtfjbmjplnmaclaaJav
set_option linter.unusedVariables false
set_option linter.unusedSimpArgs false

/- patterns: what is read (plain); the program -/
set_option maxRecDepth 4000
namespace Go.Proofs.Ytfjbmjplnmaclaa
open Go Go.RowKit Go.V

/-! Patterns. -/
def leafP (c:K):Option N :=
 if (qi c).kind = 1 then some (.mk 11 (qi c).pos 0 (qi c).text [])
 else if (qi c).kind = 2 then some (.mk 14 (qi c).pos 0 (qi c).text [])
 else if (qi c).kind = 3 then some (.mk 13 (qi c).pos (qi c).num [] [])
 else if isK c [95] = true then some (.mk 12 (qi c).pos 0 [] [])
 else none
def begP (c:K):Bool:=(leafP c).isSome || isK c [40]
def qba (rec:K->K×Option N) (c:K):K×Option N :=
 if (leafP c).isSome = true then (qg c,leafP c)
 else if isK c [40] = true then
  if (qa c).2 = true then
   if (rec (qg (qa c).1)).2.isSome = true then
    if (qc (rec (qg (qa c).1)).1 [41]).2 = true then (qb4 (qc (rec (qg (qa c).1)).1 [41]).1,(rec (qg (qa c).1)).2)
    else ((qc (rec (qg (qa c).1)).1 [41]).1,none)
   else ((rec (qg (qa c).1)).1,none)
  else ((qa c).1,none)
 else (qdy c 5,none)
def qem (rec:K->K×Option N):Nat->K->List N->K×Option (List N)
 | 0,c,acc=>(c,none)
 | f + 1, c, acc =>
   if begP c = true then
    if (qba rec c).2.isSome = true then qem rec f (qba rec c).1 (acc ++ [(qba rec c).2.getD N0])
    else ((qba rec c).1,none)
   else (c,some acc)
def qbz:Nat->K->K×Option N
 | 0,c=>(c,none)
 | f + 1, c =>
   if (qa c).2 = true then
    if (qi (qa c).1).kind = 2 then
     (qb4 (qem (qbz f) (rest (qa c).1 + 1) (qg (qa c).1) []).1,(qem (qbz f) (rest (qa c).1 + 1) (qg (qa c).1) []).2.map fun ks=>.mk 14 (qi (qa c).1).pos 0 (qi (qa c).1).text ks)
    else (qb4 (qba (qbz f) (qa c).1).1,(qba (qbz f) (qa c).1).2)
   else ((qa c).1,none)

theorem qla {c:K} {n:N} (h:leafP c = some n):(qi c).kind≠0:=by
 unfold leafP at h
 split at h
 ·omega
 ·split at h
  ·omega
  ·split at h
   ·omega
   ·split at h
    ·exact qda (by assumption)
    ·cases h
section
variable {rec:K->K×Option N} (hm:∀ c,Mon c (rec c).1)
include hm
theorem qjs (c:K):Mon c (qba rec c).1:=by
 unfold qba
 split
 ·exact qbd c
 ·split
  ·split
   ·have h1:=((qo c).trans (qbd _)).trans (hm _)
    split
    ·split
     ·exact (h1.trans (qe _ _)).trans (qx _)
     ·exact h1.trans (qe _ _)
    ·exact h1
   ·exact qo c
  ·exact qdx c 5
theorem qog {c:K} (h:(qba rec c).2.isSome = true):rest (qba rec c).1 < rest c:=by
 unfold qba at h ⊢
 split at h
 ·rename_i hl
  rw [if_pos hl]
  obtain ⟨n,hn⟩:=Option.isSome_iff_exists.1 hl
  have:=qy (qla hn)
  simp only;omega
 ·rename_i hl
  rw [if_neg hl]
  split at h
  ·rename_i hk
   rw [if_pos hk]
   split at h
   ·rename_i he
    rw [if_pos he]
    have hp:=qy (c:=(qa c).1) (by rw [qd5 he];exact qda hk)
    have h0:=(qo c).2.1
    have h1:=(hm (qg (qa c).1)).2.1
    split at h
    ·rename_i hr
     rw [if_pos hr]
     have h2:=(qe (rec (qg (qa c).1)).1 [41]).2.1
     split at h
     ·rename_i hw
      rw [if_pos hw]
      have h3:=(qx (qc (rec (qg (qa c).1)).1 [41]).1).2.1
      simp only;omega
     ·cases h
    ·cases h
   ·cases h
  ·cases h
theorem qtx:∀ (f:Nat) (c:K) (acc:List N),Mon c (qem rec f c acc).1
 | 0,c,acc=>Mon.refl c
 | f + 1, c, acc => by
   rw [qem]
   split
   ·split
    ·exact (qjs hm c).trans (qtx f _ _)
    ·exact qjs hm c
   ·exact Mon.refl c
end
theorem qep:∀ (f:Nat) (c:K),Mon c (qbz f c).1
 | 0,c=>Mon.refl c
 | f + 1, c => by
   rw [qbz]
   split
   ·split
    ·exact (((qo c).trans (qbd _)).trans (qtx (qep f) _ _ _)).trans (qx _)
    ·exact ((qo c).trans (qjs (qep f) _)).trans (qx _)
   ·exact qo c
theorem q4e (c:K):qb2 Try.prog 97 (curE c) (curE c) [.ptr 0 0] (resP (leafP c)):=by
 refine ql c0o 1 (by simp) (by simp) ?_
 repeat' (first | refine vs_ ?_ | ((first | refine vr_ ?_ | refine qbv ?_ | refine a_Is ?_ | (refine cs_ ?_ ?_<;>intro hc) | refine cj_ ?_ | fail)<;>(try refine ev_ ?_)) | with_reducible exact ti_)
 all_goals (unfold leafP;simp_all [enc,encs,N0])
theorem q88 {c:K} {L:List Ent} {Q:List Ent->VO->Prop} (hq:Q (curE c :: L) (.val (resP (leafP c)))):VApp Try.prog (curE c :: L) (.fn 97 [] []) [.ptr 0 0] Q:=qce (q4e c) rfl hq
theorem qxc (c:K):qb2 Try.prog 96 (curE c) (curE c) [.ptr 0 0] (.bool (begP c)):=by
 refine ql c0p 1 (by simp) (by simp) ?_
 repeat' (first | refine vs_ ?_ | ((first | refine vr_ ?_ | refine q88 ?_ | refine a_Is ?_ | (refine cs_ ?_ ?_<;>intro hc) | refine cj_ ?_ | fail)<;>(try refine ev_ ?_)) | with_reducible exact ti_)
 all_goals (unfold begP;simp_all)
theorem qbfs {c:K} {L:List Ent} {Q:List Ent->VO->Prop} (hq:Q (curE c :: L) (.val (.bool (begP c)))):VApp Try.prog (curE c :: L) (.fn 96 [] []) [.ptr 0 0] Q:=qby (qxc c) (qu _ _) (qu _ _) rfl rfl fun _=>hq
theorem qo2 {rec:K->K×Option N} {b:Nat} (hm:∀ c,Mon c (rec c).1) (ih:∀ c,c.good->rest c < b->qb2 Try.prog 91 (curE c) (curE (rec c).1) [.ptr 0 0] (resP (rec c).2)) (c:K) (hg:c.good) (hr:rest c≤b) :
 qb2 Try.prog 95 (curE c) (curE (qba rec c).1) [.ptr 0 0] (resP (qba rec c).2):=by
 have g1:(qa c).1.good:=(qo c).1 hg
 have g2:(qg (qa c).1).good:=(qbd _).1 g1
 have g3:(rec (qg (qa c).1)).1.good:=(hm _).1 g2
 have g4:(qc (rec (qg (qa c).1)).1 [41]).1.good:=(qe _ _).1 g3
 have hrr:isK c [40] = true->(qa c).2 = true->rest (qg (qa c).1) < b:=fun h1 h2=>by
  have:=qy (c:=(qa c).1) (by rw [qd5 h2];exact qda h1)
  have:=(qo c).2.1
  omega
 refine ql c0q 1 (by simp) (by simp) ?_
 repeat' (first | refine vs_ ?_ | ((first | refine vr_ ?_ | refine q88 ?_ | refine a_Is ?_ | refine qq5 ?_ | refine qha ?_ | refine qi2 hg.ok ?_ | refine qi2 g1.ok ?_ | refine qce (ih _ g2 (hrr (by assumption) (by assumption))) rfl ?_ | refine qb5 g3.ok ?_ | refine qe6 g4.2.2 ?_ | (refine cs_ ?_ ?_<;>intro hc) | refine cj_ ?_ | fail)<;>(try refine ev_ ?_)) | with_reducible exact ti_)
 all_goals (unfold qba;simp only [*,qds,Int.reduceEq,if_true,if_false,reduceIte,Bool.false_eq_true,Option.getD_none,Option.getD_some,Option.isSome_none,Option.isSome_some,and_self,true_and,and_true];try rfl)
def conZ (c:K):AV:=.tup [.agg [.int .i64 14,.int .i64 (qi c).pos,.int .i64 0,.str (qi c).text,.nils],.bool true]
attribute [go_sem] conZ
theorem q8z (k:Nat) (c:K):(conZ c).bd k = true:=rfl
theorem q2m (c:K) (hc:(qi c).kind = 2):qb2 Try.prog 97 (curE c) (curE c) [.ptr 0 0] (conZ c):=by
 refine qdh c0o 1 (by simp) (by simp) ?_
 repeat' (first | refine vs_ ?_ | ((first | refine vr_ ?_ | fail)<;>(try simp only [hc,Int.reduceEq,go_sem,↓reduceIte])) | ((first | (refine cs_ ?_ ?_<;>intro hc) | refine cj_ ?_ | fail | refine qbv ?_ | refine a_Is ?_)<;>(try refine ev_ ?_)) | with_reducible exact ti_)
theorem q2r (c:K) (hg:c.good) (hc:(qi c).kind = 2):qb2 Try.prog 95 (curE c) (curE (qg c)) [.ptr 0 0] (conZ c):=by
 refine qdh c0q 1 (by simp) (by simp) ?_
 repeat' (first | refine vs_ ?_ | ((first | refine vr_ ?_ | fail)<;>(try simp only [hc,go_sem,↓reduceIte])) | ((first | (refine cs_ ?_ ?_<;>intro hc) | refine cj_ ?_ | fail | refine qby (q2m c hc) (qu _ _) (qu _ _) rfl (q8z _ _) fun _=>?_ | refine qi2 hg.ok ?_)<;>(try refine ev_ ?_)) | with_reducible exact ti_)
def q7e (p:Int) (t:List UInt8) (x:Bool×Nat×K×List N):AF×List Ent :=
 (⟨[(0, .ptr 0 0), (2, .ptr 1 0), (4, .bool true), (5, .ptr 2 0), (6, .bool x.1)], []⟩,
   curE x.2.2.1 :: .blk [.int .i64 0,.int .i64 0,.int .i64 0,.str [],.nils] :: .blk [.int .i64 14,.int .i64 p,.int .i64 0,.str t,accV 3 (encs x.2.2.2)] :: accE 5 (encs x.2.2.2))
theorem qwl {f:Nat} (ih:∀ c,c.good->rest c < f->qb2 Try.prog 91 (curE c) (curE (qbz f c).1) [.ptr 0 0] (resP (qbz f c).2)) (c:K) (hg:c.good) (hr:rest c < f + 1) :
 qb2 Try.prog 91 (curE c) (curE (qbz (f + 1) c).1) [.ptr 0 0] (resP (qbz (f + 1) c).2):=by
 have hm:=qep f
 have g1:(qa c).1.good:=(qo c).1 hg
 have hr1:rest (qa c).1≤f:=by have:=(qo c).2.1;omega
 refine ql c0r 1 (by simp) (by simp) ?_
 by_cases hk:(qa c).2 = true∧(qi (qa c).1).kind = 2
 ·obtain ⟨hk1,hk2⟩:=hk
  have g2:(qg (qa c).1).good:=(qbd _).1 g1
  have hpa:qbz (f + 1) c = (qb4 (qem (qbz f) (rest (qa c).1 + 1) (qg (qa c).1) []).1,(qem (qbz f) (rest (qa c).1 + 1) (qg (qa c).1) []).2.map fun ks=>.mk 14 (qi (qa c).1).pos 0 (qi (qa c).1).text ks):=by rw [qbz,if_pos hk1,if_pos hk2]
  rw [hpa]
  clear hpa
  generalize htg:qem (qbz f) (rest (qa c).1 + 1) (qg (qa c).1) [] = tg
  have hmt:Mon (qg (qa c).1) tg.1:=htg ▸ qtx hm _ _ _
  have g3:tg.1.good:=hmt.1 g2
  repeat' (first | refine vs_ ?_ | ((first | refine vr_ ?_ | fail)<;>(try simp only [hk1,hk2,Int.reduceEq,go_sem,↓reduceIte])) | ((first | (refine cs_ ?_ ?_<;>intro hc) | refine cj_ ?_ | fail | refine qha ?_ | refine qbv ?_ | refine qby (q2r _ g1 hk2) (qu _ _) (qu _ _) rfl (q8z _ _) fun _=>?_)<;>(try refine ev_ ?_)) | with_reducible exact ti_)
  refine qct (S:=Bool×Nat×K×List N) (fun x=>x.2.2.1.good∧rest x.2.2.1≤f∧(x.1 = true->qem (qbz f) x.2.1 x.2.2.1 x.2.2.2 = tg∧rest x.2.2.1 < x.2.1)∧(x.1 = false->tg = (x.2.2.1,none))∧x.2.2.2.length + rest x.2.2.1≤1048577)
   (q7e (qi (qa c).1).pos (qi (qa c).1).text) (fun x=>if x.1 = true then rest x.2.2.1 + 1 else 0) ?_ ?_
  ·have hrn:=(qbd (qa c).1).2.1
   refine qb1 (true,rest (qa c).1 + 1,qg (qa c).1,[]) [0,1,2] ⟨g2,by simp only;omega,fun _=>⟨htg,by simp only;omega⟩,(by intro h;cases h),?_⟩ rfl (by simp) ?_ ?_ ?_
   ·have h9:=g2.rest
    unfold rest
    simp only [List.length_nil]
    omega
   all_goals simp only [q7e,encs,qbf,qbi]
   all_goals (refine ev_ ?_;(try with_reducible exact ti_))
  ·rintro ⟨b,fu,d,acc⟩ ⟨i1,i2,i3,i4,i5⟩
   simp only at i1 i2 i3 i4 i5
   unfold q7e
   cases b with
   | false =>
     have i4:=i4 rfl
     subst i4
     repeat' (first | refine vs_ ?_ | ((first | refine vr_ ?_ | refine qe6 i1.2.2 ?_ | (refine cs_ ?_ ?_<;>intro hc) | refine cj_ ?_ | fail)<;>(try refine ev_ ?_)) | with_reducible exact ti_)
     simp only [Option.map_none,Option.getD_none,Option.isSome_none,qds]
   | true =>
     have i6:=(i3 rfl).2
     replace i3:=(i3 rfl).1
     clear i4
     obtain ⟨fu,rfl⟩:∃ k,fu = k + 1:=⟨fu - 1,by omega⟩
     rw [qem] at i3
     have hcap:qeb (acc.length + 1) 64:=capN (by omega)
     have j1:(qba (qbz f) d).1.good:=(qjs hm d).1 i1
     have j2:rest (qba (qbz f) d).1≤rest d:=(qjs hm d).2.1
     by_cases h0:acc = []
     ·subst h0
      simp only [encs,qbf,qbi]
      repeat' (first | refine vs_ ?_ | ((first | refine vr_ ?_ | refine qbfs ?_ | refine qce (qo2 hm ih _ i1 i2) rfl ?_ | refine qe6 i1.2.2 ?_ | (refine cs_ ?_ ?_<;>intro hc) | refine cj_ ?_ | fail)<;>(try refine ev_ ?_)) | with_reducible exact ti_)
      ·have hb:begP d = true:=by assumption
       have hs:(qba (qbz f) d).2.isSome = true:=by assumption
       rw [if_pos hb,if_pos hs] at i3
       have hlt:=qog hm hs
       refine qb1 (true,fu,(qba (qbz f) d).1,[] ++ [(qba (qbz f) d).2.getD N0]) [0,1,2,4] ⟨⟨j1,by simp only;omega,fun _=>⟨i3,by simp only;omega⟩,(by intro h;cases h),?_⟩,by simp only [if_true];omega⟩ rfl (by simp) ?_ ?_ ?_
       ·simp only [List.length_append,List.length_cons,List.length_nil];omega
       all_goals simp only [← qh,qfj,qfn,List.nil_append,encs,qgx,qgu]
       all_goals (refine ev_ ?_;(try with_reducible exact ti_))
      ·have hb:begP d = true:=by assumption
       have hs:(qba (qbz f) d).2.isSome = false:=by assumption
       rw [if_pos hb,if_neg (by rw [hs];simp)] at i3
       refine qb1 (false,0,(qba (qbz f) d).1,[]) [0,1,2] ⟨⟨j1,by simp only;omega,(by intro h;cases h),fun _=>i3.symm,by simp only;omega⟩,by simp only [if_true,Bool.false_eq_true,if_false];omega⟩ rfl (by simp) ?_ ?_ ?_
       all_goals simp only [encs,qbf,qbi]
       all_goals (refine ev_ ?_;(try with_reducible exact ti_))
      ·have hb:begP d = false:=by assumption
       rw [if_neg (by rw [hb];simp)] at i3
       subst i3
       simp only [Option.map_some,Option.getD_some,Option.isSome_some,enc,encs,and_self]
     ·have hne:=q8 h0
      simp only [qbk hne,qbl hne,q9]
      repeat' (first | refine vs_ ?_ | ((first | refine vr_ ?_ | refine qbfs ?_ | refine qce (qo2 hm ih _ i1 i2) rfl ?_ | refine qe6 i1.2.2 ?_ | (refine cs_ ?_ ?_<;>intro hc) | refine cj_ ?_ | fail)<;>(try refine ev_ ?_)) | with_reducible exact ti_)
      ·have hb:begP d = true:=by assumption
       have hs:(qba (qbz f) d).2.isSome = true:=by assumption
       rw [if_pos hb,if_pos hs] at i3
       have hlt:=qog hm hs
       refine qb1 (true,fu,(qba (qbz f) d).1,acc ++ [(qba (qbz f) d).2.getD N0]) [0,1,2,5] ⟨⟨j1,by simp only;omega,fun _=>⟨i3,by simp only;omega⟩,(by intro h;cases h),?_⟩,by simp only [if_true];omega⟩ rfl (by simp) ?_ ?_ ?_
       ·simp only [List.length_append,List.length_cons,List.length_nil];omega
       all_goals simp only [← qh,qfj,qfn,List.nil_append,encs,qgx,qgu]
       all_goals (refine ev_ ?_;(try with_reducible exact ti_))
       rw [qh,qr,q6];exact ⟨rfl,rfl⟩
      ·have hb:begP d = true:=by assumption
       have hs:(qba (qbz f) d).2.isSome = false:=by assumption
       rw [if_pos hb,if_neg (by rw [hs];simp)] at i3
       refine qb1 (false,0,(qba (qbz f) d).1,acc) [0,1,2,3] ⟨⟨j1,by simp only;omega,(by intro h;cases h),fun _=>i3.symm,by simp only;omega⟩,by simp only [if_true,Bool.false_eq_true,if_false];omega⟩ rfl (by simp) ?_ ?_ ?_
       all_goals simp only [qbk hne,qbl hne,q9]
       all_goals (refine ev_ ?_;(try with_reducible exact ti_))
      ·have hb:begP d = false:=by assumption
       rw [if_neg (by rw [hb];simp)] at i3
       subst i3
       simp only [Option.map_some,Option.getD_some,Option.isSome_some,enc,encs,and_self]
 ·by_cases hk1:(qa c).2 = true
  ·have hk2:¬ (qi (qa c).1).kind = 2:=fun h=>hk ⟨hk1,h⟩
   have j1:(qba (qbz f) (qa c).1).1.good:=(qjs hm _).1 g1
   have hpa:qbz (f + 1) c = (qb4 (qba (qbz f) (qa c).1).1,(qba (qbz f) (qa c).1).2):=by rw [qbz,if_pos hk1,if_neg hk2]
   rw [hpa]
   clear hpa
   repeat' (first | refine vs_ ?_ | ((first | refine vr_ ?_ | fail)<;>(try simp only [hk1,hk2,go_sem,↓reduceIte])) | ((first | (refine cs_ ?_ ?_<;>intro hc) | refine cj_ ?_ | fail | refine qha ?_ | refine qbv ?_ | refine qce (qo2 hm ih _ g1 hr1) rfl ?_)<;>(try refine ev_ ?_)) | with_reducible exact ti_)
   generalize hr':qba (qbz f) (qa c).1 = r at j1
   refine qct (S:=Unit) (fun _=>True) (fun _=>(⟨[(0,.ptr 0 0),(2,.ptr 1 0),(4,.bool false),(5,.ptr 2 0),(6,.bool r.2.isSome)],[]⟩,[curE r.1,.blk [.int .i64 0,.int .i64 0,.int .i64 0,.str [],.nils],.blk (enc (r.2.getD N0)).cells])) (fun _=>0) ?_ ?_
   ·refine qb1 () [0,1,2] trivial rfl (by simp) ?_ ?_ ?_<;>(try refine ev_ ?_)<;>(try with_reducible exact ti_)<;>(try simp (disch:=omega) only [qbb,and_true,true_and])
   ·intro _ _
    repeat' (first | refine vs_ ?_ | ((first | refine vr_ ?_ | refine qe6 j1.2.2 ?_ | (refine cs_ ?_ ?_<;>intro hc) | refine cj_ ?_ | fail)<;>(try refine ev_ ?_)) | with_reducible exact ti_)
    have hs:r.2 = none:=by
     have:r.2.isSome = false:=by assumption
     revert this
     cases r.2<;>simp
    rw [hs,qds];rfl
  ·have hk1:(qa c).2 = false:=by simpa using hk1
   have hpa:qbz (f + 1) c = ((qa c).1,none):=by rw [qbz,if_neg (by rw [hk1];simp)]
   rw [hpa]
   repeat' (first | refine vs_ ?_ | ((first | refine vr_ ?_ | fail)<;>(try simp only [hk1,go_sem,↓reduceIte])) | ((first | (refine cs_ ?_ ?_<;>intro hc) | refine cj_ ?_ | fail | refine qha ?_)<;>(try refine ev_ ?_)) | with_reducible exact ti_)
   rw [qds];rfl
theorem qbgk (f:Nat):∀ c:K,c.good->rest c < f->qb2 Try.prog 91 (curE c) (curE (qbz f c).1) [.ptr 0 0] (resP (qbz f c).2):=by
 induction f with
 | zero=>exact fun c _ h=>absurd h (by omega)
 | succ f ih=>exact qwl ih
end Go.Proofs.Ytfjbmjplnmaclaa
