/- Texts of this proof, joined. -/
import Derived.Test.YtkenggenkmfopaaGreatIbo
import Derived.Test.YtkenggenkmfopaaGreatIbp
import Derived.Test.YtkenggenkmfopaaGreatIbb
set_option linter.unusedVariables false
set_option linter.unusedSimpArgs false

/- patterns: what is read (plain) -/
namespace Go.Proofs.YtkenggenkmfopaaGreat
open Go Go.RowKit Go.V

def K.good(c:K):Prop:=c.at'≤c.l.length∧c.l.length≤1048577∧c.nest≤200
def rest(c:K):Nat:=c.l.length-c.at'
theorem K.good.ok{c:K}(h:c.good):c.ok:=⟨h.1,Nat.le_trans h.2.1 (by unfold maxLen;omega)⟩
theorem K.good.rest{c:K}(h:c.good):c.l.length-c.at'≤1048577:=by have:=h.2.1;omega
theorem capN{n:Nat}(h:n≤1048580):qbe n 64:=by unfold qbe;omega
def Mono(c c':K):Prop:=(c.good->c'.good)∧rest c'≤rest c
theorem Mono.refl(c:K):Mono c c:=⟨id,Nat.le_refl _⟩
theorem Mono.trans{a b c:K}(h:Mono a b)(k:Mono b c):Mono a c:=⟨fun g=>k.1 (h.1 g),Nat.le_trans k.2 h.2⟩
theorem qey(c:K):Mono c (qco c):=by
 unfold qco
 split
 ·split
  ·exact⟨fun h=>⟨by simp only;omega,h.2⟩,by unfold rest;simp only;omega⟩
  ·exact Mono.refl c
 ·exact Mono.refl c
theorem qnn(c:K)(e:Int):Mono c (qj5 c e):=by
 unfold qj5
 split
 ·exact⟨fun h=>h,Nat.le_refl _⟩
 ·exact Mono.refl c
theorem qb8(c:K):Mono c (qu c).1:=by
 unfold qu
 split
 ·split
  ·rename_i h1;exact⟨fun h=>⟨h.1,h.2.1,by simp only;omega⟩,Nat.le_refl _⟩
  ·exact qnn c 2
 ·exact Mono.refl c
theorem qd0(c:K):Mono c (qfe c):=by
 unfold qfe
 split
 ·split
  ·exact⟨fun h=>⟨h.1,h.2.1,by have:=h.2.2;simp only;omega⟩,Nat.le_refl _⟩
  ·exact Mono.refl c
 ·exact Mono.refl c
theorem qg4(c:K)(x:List UInt8):Mono c (qid c x).1:=by
 unfold qid
 split
 ·exact qey c
 ·exact qnn c 5
theorem q23{c:K}(h:(qch c).kind≠0):c.err=0∧c.at'<c.l.length:=by
 unfold qch at h
 split at h
 ·rename_i h1
  split at h
  ·rename_i h2;exact⟨h1,h2⟩
  ·exact absurd rfl h
 ·exact absurd rfl h
theorem qf7{c:K}(h:(qch c).kind≠0):rest (qco c)+1=rest c:=by
 obtain⟨h1,h2⟩:=q23 h
 rw[qyx h1 (by omega)]
 unfold rest;simp only;omega
theorem ql2{c:K}{x:List UInt8}(h:isK c x=true):(qch c).kind≠0:=by
 simp only[isK,qbbu,Bool.and_eq_true,Bool.or_eq_true,decide_eq_true_eq] at h
 omega
theorem q8y{c:K}(h:(qu c).2=true):c.err=0∧(qu c).1.err=0∧(qu c).1={ c with nest:=c.nest+1 }:=by
 unfold qu at h ⊢
 split at h
 ·rename_i h1
  split at h
  ·rename_i h2;rw[if_pos h1,if_pos h2];exact⟨h1,h1,rfl⟩
  ·cases h
 ·cases h
theorem qlc{c:K}(h:(qu c).2=true):qch (qu c).1=qch c:=by rw[(q8y h).2.2];rfl
/-! Patterns. -/
def qo7(c:K):Option N :=
 if(qch c).kind=1 then some (.mk 11 (qch c).pos 0 (qch c).text [])
 else if(qch c).kind=2 then some (.mk 14 (qch c).pos 0 (qch c).text [])
 else if(qch c).kind=3 then some (.mk 13 (qch c).pos (qch c).num [] [])
 else if isK c [95]=true then some (.mk 12 (qch c).pos 0 [] [])
 else none
def begP(c:K):Bool:=(qo7 c).isSome||isK c [40]
def qbg(rec:K->K×Option N)(c:K):K×Option N :=
 if(qo7 c).isSome=true then(qco c,qo7 c)
 else if isK c [40]=true then
  if(qu c).2=true then
   if(rec (qco (qu c).1)).2.isSome=true then
    if(qid (rec (qco (qu c).1)).1 [41]).2=true then(qfe (qid (rec (qco (qu c).1)).1 [41]).1,(rec (qco (qu c).1)).2)
    else((qid (rec (qco (qu c).1)).1 [41]).1,none)
   else((rec (qco (qu c).1)).1,none)
  else((qu c).1,none)
 else(qj5 c 5,none)
def qjo(rec:K->K×Option N):Nat->K->List N->K×Option (List N)
 | 0,c,acc=>(c,none)
 | f + 1, c, acc =>
   if begP c=true then
    if(qbg rec c).2.isSome=true then qjo rec f (qbg rec c).1 (acc++[(qbg rec c).2.getD N0])
    else((qbg rec c).1,none)
   else(c,some acc)
def qb3:Nat->K->K×Option N
 | 0,c=>(c,none)
 | f + 1, c =>
   if(qu c).2=true then
    if(qch (qu c).1).kind=2 then
     (qfe (qjo (qb3 f) (rest (qu c).1+1) (qco (qu c).1) []).1,(qjo (qb3 f) (rest (qu c).1+1) (qco (qu c).1) []).2.map fun ks=>.mk 14 (qch (qu c).1).pos 0 (qch (qu c).1).text ks)
    else(qfe (qbg (qb3 f) (qu c).1).1,(qbg (qb3 f) (qu c).1).2)
   else((qu c).1,none)

theorem qvk{c:K}{n:N}(h:qo7 c=some n):(qch c).kind≠0:=by
 unfold qo7 at h
 split at h
 ·omega
 ·split at h
  ·omega
  ·split at h
   ·omega
   ·split at h
    ·exact ql2 (by assumption)
    ·cases h
section
variable {rec:K->K×Option N} (hm:∀c,Mono c (rec c).1)
include hm
theorem qf1(c:K):Mono c (qbg rec c).1:=by
 unfold qbg
 split
 ·exact qey c
 ·split
  ·split
   ·have h1:=((qb8 c).trans (qey _)).trans (hm _)
    split
    ·split
     ·exact(h1.trans (qg4 _ _)).trans (qd0 _)
     ·exact h1.trans (qg4 _ _)
    ·exact h1
   ·exact qb8 c
  ·exact qnn c 5
theorem qvw{c:K}(h:(qbg rec c).2.isSome=true):rest (qbg rec c).1<rest c:=by
 unfold qbg at h ⊢
 split at h
 ·rename_i hl
  rw[if_pos hl]
  obtain⟨n,hn⟩:=Option.isSome_iff_exists.1 hl
  have:=qf7 (qvk hn)
  simp only;omega
 ·rename_i hl
  rw[if_neg hl]
  split at h
  ·rename_i hk
   rw[if_pos hk]
   split at h
   ·rename_i he
    rw[if_pos he]
    have hp:=qf7 (c:=(qu c).1) (by rw[qlc he];exact ql2 hk)
    have h0:=(qb8 c).2
    have h1:=(hm (qco (qu c).1)).2
    split at h
    ·rename_i hr
     rw[if_pos hr]
     have h2:=(qg4 (rec (qco (qu c).1)).1 [41]).2
     split at h
     ·rename_i hw
      rw[if_pos hw]
      have h3:=(qd0 (qid (rec (qco (qu c).1)).1 [41]).1).2
      simp only;omega
     ·cases h
    ·cases h
   ·cases h
  ·cases h
theorem qnk:∀(f:Nat) (c:K) (acc:List N),Mono c (qjo rec f c acc).1
 | 0,c,acc=>Mono.refl c
 | f + 1, c, acc => by
   rw[qjo]
   split
   ·split
    ·exact(qf1 hm c).trans (qnk f _ _)
    ·exact qf1 hm c
   ·exact Mono.refl c
end
theorem qh0:∀(f:Nat) (c:K),Mono c (qb3 f c).1
 | 0,c=>Mono.refl c
 | f + 1, c => by
   rw[qb3]
   split
   ·split
    ·exact(((qb8 c).trans (qey _)).trans (qnk (qh0 f) _ _ _)).trans (qd0 _)
    ·exact((qb8 c).trans (qf1 (qh0 f) _)).trans (qd0 _)
   ·exact qb8 c
set_option maxRecDepth 4000

def resP(r:Option N):AV:=.tup [enc (r.getD N0),.bool r.isSome]
attribute [go_sem] resP
theorem qbaf(k:Nat)(r:Option N):(resP r).bd k=true:=by simp only[resP,AV.bd,AV.bds,qc8,Bool.and_true]
theorem q45{P:Program}{f:FuncId}{c c':K}{L:List Ent}{args:List AV}{r:Option N}{Q:List Ent->VO->Prop}(h:qeo P f (curE c) (curE c') args (resP r))(ha:AV.bds 1 args=true)(hq:Q (curE c'::L) (.val (resP r))):VApp P (curE c::L) (.fn f [] []) args Q :=
 qcc h (qbh _ _) (qbh _ _) ha (qbaf _ _) fun _=>hq
theorem q5b:AV.agg [.int .i64 0,.int .i64 0,.int .i64 0,.str [],.sl 5 []]=enc N0:=by simp[N0,enc,encs]
theorem q94(c:K):qeo Tryz.prog 188 (curE c) (curE c) [.ptr 0 0] (resP (qo7 c)):=by
 refine qd c0dk 1 (by simp) (by simp) ?_
 repeat'(first|refine vs_ ?_|((first|refine vr_ ?_|refine qnx ?_|refine a_Is ?_|(refine cs_ ?_ ?_<;>intro hc)|refine cj_ ?_)<;>try refine ev_ ?_)|with_reducible exact ti_)
 all_goals(unfold qo7;simp_all[enc,encs,N0])
theorem q7e{c:K}{L:List Ent}{Q:List Ent->VO->Prop}(hq:Q (curE c::L) (.val (resP (qo7 c)))):VApp Tryz.prog (curE c::L) (.fn 188 [] []) [.ptr 0 0] Q:=q45 (q94 c) rfl hq
theorem qwl(c:K):qeo Tryz.prog 138 (curE c) (curE c) [.ptr 0 0] (.bool (begP c)):=by
 refine qd c0dl 1 (by simp) (by simp) ?_
 repeat'(first|refine vs_ ?_|((first|refine vr_ ?_|refine q7e ?_|refine a_Is ?_|(refine cs_ ?_ ?_<;>intro hc)|refine cj_ ?_)<;>try refine ev_ ?_)|with_reducible exact ti_)
 all_goals(unfold begP;simp_all)
theorem qbl2{c:K}{L:List Ent}{Q:List Ent->VO->Prop}(hq:Q (curE c::L) (.val (.bool (begP c)))):VApp Tryz.prog (curE c::L) (.fn 138 [] []) [.ptr 0 0] Q:=qcc (qwl c) (qbh _ _) (qbh _ _) rfl rfl fun _=>hq
theorem qox{rec:K->K×Option N}{b:Nat}(hm:∀c,Mono c (rec c).1)(ih:∀c,c.good->rest c<b->qeo Tryz.prog 91 (curE c) (curE (rec c).1) [.ptr 0 0] (resP (rec c).2))(c:K)(hg:c.good)(hr:rest c≤b):
 qeo Tryz.prog 137 (curE c) (curE (qbg rec c).1) [.ptr 0 0] (resP (qbg rec c).2):=by
 have g1:(qu c).1.good:=(qb8 c).1 hg
 have g2:(qco (qu c).1).good:=(qey _).1 g1
 have g3:(rec (qco (qu c).1)).1.good:=(hm _).1 g2
 have g4:(qid (rec (qco (qu c).1)).1 [41]).1.good:=(qg4 _ _).1 g3
 have hrr:isK c [40]=true->(qu c).2=true->rest (qco (qu c).1)<b:=fun h1 h2=>by
  have:=qf7 (c:=(qu c).1) (by rw[qlc h2];exact ql2 h1)
  have:=(qb8 c).2
  omega
 refine qd c0dm 1 (by simp) (by simp) ?_
 repeat'(first|refine vs_ ?_|((first|refine vr_ ?_|refine q7e ?_|refine a_Is ?_|refine q5r ?_|refine qsi ?_|refine qzg hg.ok ?_|refine qzg g1.ok ?_|refine q45 (ih _ g2 (hrr (by assumption) (by assumption))) rfl ?_|refine qch6 g3.ok ?_|refine qmy g4.2.2 ?_|(refine cs_ ?_ ?_<;>intro hc)|refine cj_ ?_)<;>try refine ev_ ?_)|with_reducible exact ti_)
 all_goals(unfold qbg;simp only[*,q5b,Int.reduceEq,if_true,if_false,reduceIte,Bool.false_eq_true,Option.getD_none,Option.getD_some,Option.isSome_none,Option.isSome_some,and_self,true_and,and_true];try rfl)
def conZ(c:K):AV:=.tup [.agg [.int .i64 14,.int .i64 (qch c).pos,.int .i64 0,.str (qch c).text,.nils],.bool true]
attribute [go_sem] conZ
theorem q4u(k:Nat)(c:K):(conZ c).bd k=true:=rfl
theorem q17(c:K)(hc:(qch c).kind=2):qeo Tryz.prog 188 (curE c) (curE c) [.ptr 0 0] (conZ c):=by
 refine qf4 c0dk 1 (by simp) (by simp) ?_
 repeat'(first|refine vs_ ?_|(refine vr_ ?_<;>try simp only[hc,Int.reduceEq,go_sem,↓reduceIte])|((first|(refine cs_ ?_ ?_<;>intro hc)|refine cj_ ?_|fail|refine qnx ?_|refine a_Is ?_)<;>try refine ev_ ?_)|with_reducible exact ti_)
theorem q28(c:K)(hg:c.good)(hc:(qch c).kind=2):qeo Tryz.prog 137 (curE c) (curE (qco c)) [.ptr 0 0] (conZ c):=by
 refine qf4 c0dm 1 (by simp) (by simp) ?_
 repeat'(first|refine vs_ ?_|(refine vr_ ?_<;>try simp only[hc,go_sem,↓reduceIte])|((first|(refine cs_ ?_ ?_<;>intro hc)|refine cj_ ?_|fail|refine qcc (q17 c hc) (qbh _ _) (qbh _ _) rfl (q4u _ _) fun _=>?_|refine qzg hg.ok ?_)<;>try refine ev_ ?_)|with_reducible exact ti_)
theorem qo2{l:List N}(h:l≠[]):encs l≠[]:=by cases l with | nil=>exact absurd rfl h | cons _ _=>simp[encs]
def q8h(p:Int)(t:List UInt8)(x:Bool×Nat×K×List N):AF×List Ent :=
 (⟨[(0, .ptr 0 0), (2, .ptr 1 0), (4, .bool true), (5, .ptr 2 0), (6, .bool x.1)], []⟩,
   curE x.2.2.1::.blk [.int .i64 0,.int .i64 0,.int .i64 0,.str [],.nils]::.blk [.int .i64 14,.int .i64 p,.int .i64 0,.str t,accV 3 (encs x.2.2.2)]::accE 5 (encs x.2.2.2))
theorem qug{f:Nat}(ih:∀c,c.good->rest c<f->qeo Tryz.prog 91 (curE c) (curE (qb3 f c).1) [.ptr 0 0] (resP (qb3 f c).2))(c:K)(hg:c.good)(hr:rest c<f+1):
 qeo Tryz.prog 91 (curE c) (curE (qb3 (f+1) c).1) [.ptr 0 0] (resP (qb3 (f+1) c).2):=by
 have hm:=qh0 f
 have g1:(qu c).1.good:=(qb8 c).1 hg
 have hr1:rest (qu c).1≤f:=by have:=(qb8 c).2;omega
 refine qd c0dn 1 (by simp) (by simp) ?_
 by_cases hk:(qu c).2=true∧(qch (qu c).1).kind=2
 ·obtain⟨hk1,hk2⟩:=hk
  have g2:(qco (qu c).1).good:=(qey _).1 g1
  have hpa:qb3 (f+1) c=(qfe (qjo (qb3 f) (rest (qu c).1+1) (qco (qu c).1) []).1,(qjo (qb3 f) (rest (qu c).1+1) (qco (qu c).1) []).2.map fun ks=>.mk 14 (qch (qu c).1).pos 0 (qch (qu c).1).text ks):=by rw[qb3,if_pos hk1,if_pos hk2]
  rw[hpa]
  clear hpa
  generalize htg:qjo (qb3 f) (rest (qu c).1+1) (qco (qu c).1) []=tg
  have hmt:Mono (qco (qu c).1) tg.1:=htg ▸ qnk hm _ _ _
  have g3:tg.1.good:=hmt.1 g2
  repeat'(first|refine vs_ ?_|(refine vr_ ?_<;>try simp only[hk1,hk2,Int.reduceEq,go_sem,↓reduceIte])|((first|(refine cs_ ?_ ?_<;>intro hc)|refine cj_ ?_|fail|refine qsi ?_|refine qnx ?_|refine qcc (q28 _ g1 hk2) (qbh _ _) (qbh _ _) rfl (q4u _ _) fun _=>?_)<;>try refine ev_ ?_)|with_reducible exact ti_)
  refine qo (S:=Bool×Nat×K×List N) (fun x=>x.2.2.1.good∧rest x.2.2.1≤f∧(x.1=true->qjo (qb3 f) x.2.1 x.2.2.1 x.2.2.2=tg∧rest x.2.2.1<x.2.1)∧(x.1=false->tg=(x.2.2.1,none))∧x.2.2.2.length+rest x.2.2.1≤1048577)
   (q8h (qch (qu c).1).pos (qch (qu c).1).text) (fun x=>if x.1=true then rest x.2.2.1+1 else 0) ?_ ?_
  ·have hrn:=(qey (qu c).1).2
   refine qj (true,rest (qu c).1+1,qco (qu c).1,[]) [0,1,2] ⟨g2,by simp only;omega,fun _=>⟨htg,by simp only;omega⟩,(by intro h;cases h),?_⟩ rfl (by simp) ?_ ?_ ?_
   ·have h9:=g2.rest
    unfold rest
    simp only[List.length_nil]
    omega
   all_goals simp only[q8h,encs,qi,qk]
   all_goals(refine ev_ ?_;(try with_reducible exact ti_))
  ·rintro⟨b,fu,d,acc⟩ ⟨i1,i2,i3,i4,i5⟩
   simp only at i1 i2 i3 i4 i5
   unfold q8h
   cases b with
   | false =>
     have i4:=i4 rfl
     subst i4
     repeat'(first|refine vs_ ?_|((first|refine vr_ ?_|refine qmy i1.2.2 ?_|(refine cs_ ?_ ?_<;>intro hc)|refine cj_ ?_)<;>try refine ev_ ?_)|with_reducible exact ti_)
     simp only[Option.map_none,Option.getD_none,Option.isSome_none,q5b]
   | true =>
     have i6:=(i3 rfl).2
     replace i3:=(i3 rfl).1
     clear i4
     obtain⟨fu,rfl⟩:∃k,fu=k+1:=⟨fu-1,by omega⟩
     rw[qjo] at i3
     have hcap:qbe (acc.length+1) 64:=capN (by omega)
     have j1:(qbg (qb3 f) d).1.good:=(qf1 hm d).1 i1
     have j2:rest (qbg (qb3 f) d).1≤rest d:=(qf1 hm d).2
     by_cases h0:acc=[]
     ·subst h0
      simp only[encs,qi,qk]
      repeat'(first|refine vs_ ?_|((first|refine vr_ ?_|refine qbl2 ?_|refine q45 (qox hm ih _ i1 i2) rfl ?_|refine qmy i1.2.2 ?_|(refine cs_ ?_ ?_<;>intro hc)|refine cj_ ?_)<;>try refine ev_ ?_)|with_reducible exact ti_)
      ·have hb:begP d=true:=by assumption
       have hs:(qbg (qb3 f) d).2.isSome=true:=by assumption
       rw[if_pos hb,if_pos hs] at i3
       have hlt:=qvw hm hs
       refine qj (true,fu,(qbg (qb3 f) d).1,[]++[(qbg (qb3 f) d).2.getD N0]) [0,1,2,4] ⟨⟨j1,by simp only;omega,fun _=>⟨i3,by simp only;omega⟩,(by intro h;cases h),?_⟩,by simp only[if_true];omega⟩ rfl (by simp) ?_ ?_ ?_
       ·simp only[List.length_append,List.length_cons,List.length_nil];omega
       all_goals simp only[←qji,qd8,qd9,List.nil_append,encs,qd1,qd6]
       all_goals(refine ev_ ?_;(try with_reducible exact ti_))
      ·have hb:begP d=true:=by assumption
       have hs:(qbg (qb3 f) d).2.isSome=false:=by assumption
       rw[if_pos hb,if_neg (by rw[hs];simp)] at i3
       refine qj (false,0,(qbg (qb3 f) d).1,[]) [0,1,2] ⟨⟨j1,by simp only;omega,(by intro h;cases h),fun _=>i3.symm,by simp only;omega⟩,by simp only[if_true,Bool.false_eq_true,if_false];omega⟩ rfl (by simp) ?_ ?_ ?_
       all_goals simp only[encs,qi,qk]
       all_goals(refine ev_ ?_;(try with_reducible exact ti_))
      ·have hb:begP d=false:=by assumption
       rw[if_neg (by rw[hb];simp)] at i3
       subst i3
       simp only[Option.map_some,Option.getD_some,Option.isSome_some,enc,encs,and_self]
     ·have hne:=qo2 h0
      simp only[qm hne,qn hne,qd7]
      repeat'(first|refine vs_ ?_|((first|refine vr_ ?_|refine qbl2 ?_|refine q45 (qox hm ih _ i1 i2) rfl ?_|refine qmy i1.2.2 ?_|(refine cs_ ?_ ?_<;>intro hc)|refine cj_ ?_)<;>try refine ev_ ?_)|with_reducible exact ti_)
      ·have hb:begP d=true:=by assumption
       have hs:(qbg (qb3 f) d).2.isSome=true:=by assumption
       rw[if_pos hb,if_pos hs] at i3
       have hlt:=qvw hm hs
       refine qj (true,fu,(qbg (qb3 f) d).1,acc++[(qbg (qb3 f) d).2.getD N0]) [0,1,2,5] ⟨⟨j1,by simp only;omega,fun _=>⟨i3,by simp only;omega⟩,(by intro h;cases h),?_⟩,by simp only[if_true];omega⟩ rfl (by simp) ?_ ?_ ?_
       ·simp only[List.length_append,List.length_cons,List.length_nil];omega
       all_goals simp only[←qji,qd8,qd9,List.nil_append,encs,qd1,qd6]
       all_goals(refine ev_ ?_;(try with_reducible exact ti_))
       rw[qji,qkr,q0k];exact⟨rfl,rfl⟩
      ·have hb:begP d=true:=by assumption
       have hs:(qbg (qb3 f) d).2.isSome=false:=by assumption
       rw[if_pos hb,if_neg (by rw[hs];simp)] at i3
       refine qj (false,0,(qbg (qb3 f) d).1,acc) [0,1,2,3] ⟨⟨j1,by simp only;omega,(by intro h;cases h),fun _=>i3.symm,by simp only;omega⟩,by simp only[if_true,Bool.false_eq_true,if_false];omega⟩ rfl (by simp) ?_ ?_ ?_
       all_goals simp only[qm hne,qn hne,qd7]
       all_goals(refine ev_ ?_;(try with_reducible exact ti_))
      ·have hb:begP d=false:=by assumption
       rw[if_neg (by rw[hb];simp)] at i3
       subst i3
       simp only[Option.map_some,Option.getD_some,Option.isSome_some,enc,encs,and_self]
 ·by_cases hk1:(qu c).2=true
  ·have hk2:¬(qch (qu c).1).kind=2:=fun h=>hk ⟨hk1,h⟩
   have j1:(qbg (qb3 f) (qu c).1).1.good:=(qf1 hm _).1 g1
   have hpa:qb3 (f+1) c=(qfe (qbg (qb3 f) (qu c).1).1,(qbg (qb3 f) (qu c).1).2):=by rw[qb3,if_pos hk1,if_neg hk2]
   rw[hpa]
   clear hpa
   repeat'(first|refine vs_ ?_|(refine vr_ ?_<;>try simp only[hk1,hk2,go_sem,↓reduceIte])|((first|(refine cs_ ?_ ?_<;>intro hc)|refine cj_ ?_|fail|refine qsi ?_|refine qnx ?_|refine q45 (qox hm ih _ g1 hr1) rfl ?_)<;>try refine ev_ ?_)|with_reducible exact ti_)
   generalize hr':qbg (qb3 f) (qu c).1=r at j1
   refine qo (S:=Unit) (fun _=>True) (fun _=>(⟨[(0,.ptr 0 0),(2,.ptr 1 0),(4,.bool false),(5,.ptr 2 0),(6,.bool r.2.isSome)],[]⟩,[curE r.1,.blk [.int .i64 0,.int .i64 0,.int .i64 0,.str [],.nils],.blk (enc (r.2.getD N0)).cells])) (fun _=>0) ?_ ?_
   ·refine qj () [0,1,2] trivial rfl (by simp) ?_ ?_ ?_<;>(try refine ev_ ?_)<;>(try with_reducible exact ti_)<;>(try simp (disch:=omega) only[qc,and_true,true_and])
   ·intro _ _
    repeat'(first|refine vs_ ?_|((first|refine vr_ ?_|refine qmy j1.2.2 ?_|(refine cs_ ?_ ?_<;>intro hc)|refine cj_ ?_)<;>try refine ev_ ?_)|with_reducible exact ti_)
    have hs:r.2=none:=by
     have:r.2.isSome=false:=by assumption
     revert this
     cases r.2<;>simp
    rw[hs,q5b];rfl
  ·have hk1:(qu c).2=false:=by simpa using hk1
   have hpa:qb3 (f+1) c=((qu c).1,none):=by rw[qb3,if_neg (by rw[hk1];simp)]
   rw[hpa]
   repeat'(first|refine vs_ ?_|(refine vr_ ?_<;>try simp only[hk1,go_sem,↓reduceIte])|((first|(refine cs_ ?_ ?_<;>intro hc)|refine cj_ ?_|fail|refine qsi ?_)<;>try refine ev_ ?_)|with_reducible exact ti_)
   rw[q5b];rfl
theorem qbqs(f:Nat):∀c:K,c.good->rest c<f->qeo Tryz.prog 91 (curE c) (curE (qb3 f c).1) [.ptr 0 0] (resP (qb3 f c).2):=by
 induction f with
 | zero=>exact fun c _ h=>absurd h (by omega)
 | succ f ih=>exact qug ih

def em(c:K):Nat:=if c.err=0 then rest c+1 else 0
theorem qcli(c:K):em c≤rest c+1:=by unfold em;split<;>omega
/-! The program. -/
/-! What both read. -/

section
variable {P:Program} {f:FuncId} {e e':Ent} {L:List Ent} {args0 args:List AV} {r:AV} {Q:List Ent->VO->Prop}
theorem q0p(k:Nat)(h:qeo P f e e' args0 r)(hk:L[k]?=some e)(hb:e.bd 0=true)(hb':e'.bd 0=true)(ha:AV.bds 1 args0=true)(hr:r.bd 0=true)(hs:AV.rens (sg [k]) args0=args)(hq:r.wf->Q (L.set k e') (.val r)):
 VApp P L (.fn f [] []) args Q :=
 qb1 (first:=[]) (caps:=[]) (by
  simp only[List.nil_append,List.append_nil]
  rw[←hs]
  have hlt:k<L.length:=(List.getElem?_eq_some_iff.1 hk).1
  refine qdv (H0:=[e]) [k] (h.mono' (Q':=fun H' o=>(H'=[e']∧o=.val r)∧r.wf) fun H' o hw ho=>⟨ho,by have:=ho.2;subst this;exact hw⟩) (by simp) (by simpa using hlt) rfl ?_ ha ?_
  ·intro j e2 hj
   obtain rfl:j=0:=by have:=(List.getElem?_eq_some_iff.1 hj).1;simp at this;omega
   simp only[List.getElem?_cons_zero,Option.some.injEq] at hj
   subst hj
   exact .inr ⟨Ent.bd_le (Nat.zero_le _) _ hb,by rw[Ent.ren_same (m:=0) (fun i hi=>by omega) _ hb];exact hk⟩
  ·rintro H1 o ⟨⟨rfl,rfl⟩,hw⟩
   have h1:e'.ren (sg' [k] L.length)=e':=Ent.ren_same (m:=0) (fun i hi=>by omega) _ hb'
   have h2:r.ren (sg' [k] L.length)=r:=ren_same (m:=0) (fun i hi=>by omega) _ hr
   simp only[List.length_cons,List.length_nil,List.take_succ_cons,List.take_zero,List.map_cons,List.map_nil,qbf,h1,VO.ren,h2,List.drop_succ_cons,List.drop_nil,List.append_nil]
   exact hq hw)
theorem q43(h:VCalls P f [] args fun H' o=>H'=[e]∧o=.val (.ptr 0 0))(hb:e.bd 0=true)(ha:AV.bds 0 args=true)(hq:Q (L++[e]) (.val (.ptr L.length 0))):VApp P L (.fn f [] []) args Q :=
 qb1 (first:=[]) (caps:=[]) (by
  simp only[List.nil_append,List.append_nil]
  have hs:AV.rens (sg []) args=args:=qs (m:=0) (fun i hi=>by omega) _ ha
  rw[←hs]
  refine qdv (H0:=[]) [] h (by simp) (by simp) rfl (fun j e2 hj=>by simp at hj) ha ?_
  rintro H1 o ⟨rfl,rfl⟩
  have h1:e.ren (sg' [] L.length)=e:=Ent.ren_same (m:=0) (fun i hi=>by omega) _ hb
  simp only[List.length_nil,List.take_zero,List.map_nil,qbf,List.drop_zero,List.map_cons,h1,VO.ren,AV.ren,sg',Nat.not_lt_zero,if_false,Nat.sub_zero,Nat.add_zero]
  exact hq)
end
theorem qru(s:List UInt8):(lexV s).1.length≤1048577∧(lexV s).1.length≤s.length+1:=by
 by_cases h:1048576<(s.length:Int)
 ·rw[qz8 h];simp
 ·have hll:(lexG s (qcq s)).1.length≤s.length:=by have:=qq2 (s:=s) (s.length-qcq s) (qcq s);unfold lexG;omega
  by_cases he:(lexG s (qcq s)).2.2=0
  ·rw[qbae h he];simp only[List.length_append,List.length_cons,List.length_nil];omega
  ·rw[q0n h he];simp
theorem q2x{n:N}(h:sz n≤1000000):(qbt (fun(k:Int) l _=>(if l > k then l else k,true)) n 1 0).1=depR n:=by
 show(qbt dpF n 1 0).1=depR n
 rw[qbyn n 1 0 (by omega) (by omega),qb7m n (by omega)]
 have:=qbkw n
 simp only;omega
set_option maxRecDepth 4000

/-! The size of what is read. -/
theorem qwq:∀(a b:List N),szs (a++b)=szs a+szs b
 | [],b=>by simp[szs]
 | x::a,b=>by rw[List.cons_append,szs,szs,qwq a b];omega
theorem qbrg{c:K}{n:N}(h:qo7 c=some n):sz n=1:=by
 unfold qo7 at h
 repeat' split at h
 all_goals first | (cases h;rw[qiz];rfl) | cases h
section
variable {rec:K->K×Option N} (ih:∀c n,(rec c).2=some n->sz n+rest (rec c).1≤rest c)
include ih
theorem q8j{c:K}{n:N}(h:(qbg rec c).2=some n):sz n+rest (qbg rec c).1≤rest c:=by
 unfold qbg at h ⊢
 split at h
 ·rename_i h1
  rw[if_pos h1]
  have:=qf7 (qvk h)
  have:=qbrg h
  simp only;omega
 ·rename_i h1
  rw[if_neg h1]
  split at h
  ·rename_i h2
   rw[if_pos h2]
   split at h
   ·rename_i h3
    rw[if_pos h3]
    have hp:=qf7 (c:=(qu c).1) (by rw[qlc h3];exact ql2 h2)
    have h0:=(qb8 c).2
    split at h
    ·rename_i h4
     rw[if_pos h4]
     split at h
     ·rename_i h5
      rw[if_pos h5]
      have h6:=ih _ _ h
      have h7:=(qg4 (rec (qco (qu c).1)).1 [41]).2
      have h8:=(qd0 (qid (rec (qco (qu c).1)).1 [41]).1).2
      simp only at h6 ⊢;omega
     ·cases h
    ·cases h
   ·cases h
  ·cases h
theorem qba6:∀(f:Nat) (c:K) (acc l:List N),(qjo rec f c acc).2=some l->szs l+rest (qjo rec f c acc).1≤szs acc+rest c
 | 0,c,acc,l=>fun h=>by cases h
 | f + 1, c, acc, l => fun h => by
   rw[qjo] at h ⊢
   split at h
   ·rename_i h1
    rw[if_pos h1]
    split at h
    ·rename_i h2
     rw[if_pos h2]
     obtain⟨n,hn⟩:=Option.isSome_iff_exists.1 h2
     have h3:=qba6 f _ _ _ h
     have h4:=q8j ih hn
     rw[qwq,hn] at h3
     simp only[Option.getD_some,szs] at h3
     rw[hn]
     simp only[Option.getD_some]
     omega
    ·cases h
   ·rename_i h1
    rw[if_neg h1]
    cases h
    exact Nat.le_refl _
end
theorem qbsu:∀(f:Nat) (c:K) (n:N),(qb3 f c).2=some n->sz n+rest (qb3 f c).1≤rest c
 | 0,_,_=>fun h=>by cases h
 | f + 1, c, n => fun h => by
   rw[qb3] at h ⊢
   have h0:=(qb8 c).2
   split at h
   ·rename_i h1
    rw[if_pos h1]
    split at h
    ·rename_i h2
     rw[if_pos h2]
     have hr:=qf7 (c:=(qu c).1) (by omega)
     obtain⟨l,hl,rfl⟩:=Option.map_eq_some_iff.1 h
     have h3:=qba6 (qbsu f) _ _ _ _ hl
     have h4:=(qd0 (qjo (qb3 f) (rest (qu c).1+1) (qco (qu c).1) []).1).2
     rw[qiz]
     simp only[N.kids,szs] at h3 ⊢
     omega
    ·rename_i h2
     rw[if_neg h2]
     have h3:=q8j (qbsu f) h
     have h4:=(qd0 (qbg (qb3 f) (qu c).1).1).2
     simp only
     omega
   ·cases h
theorem qbaz{l:List T}(h:l.length≤1048577):(newK l).good:=⟨Nat.zero_le _,Nat.le_trans (qko l) h,Nat.zero_le _⟩

/-! What is all there is. -/
def qbl0(c:K)(n:N):N×Int×Int :=
 if(qly c).2=0 then if depR n > 100 then(N0,n.pos,2) else(n,0,0) else(N0,(qly c).1,(qly c).2)
def patV(s:List UInt8):N×Int×Int :=
 if(lexV s).2.2=0 then qbl0 (qb3 (rest (newK (lexV s).1)+2) (newK (lexV s).1)).1 ((qb3 (rest (newK (lexV s).1)+2) (newK (lexV s).1)).2.getD N0)
 else(N0,(lexV s).2.1,(lexV s).2.2)
def resV(r:N×Int×Int):AV:=.tup [enc r.1,.int .i64 r.2.1,.int .i64 r.2.2]
attribute [go_sem] resV
attribute [go_sem] lexR
theorem qclq(c:K)(h:c.ok):qeo Tryz.prog 92 (curE c) (curE c) [.ptr 0 0] (.tup [.int .i64 (qly c).1,.int .i64 (qly c).2]):=qbkp c h
theorem qnf(s:List UInt8)(hs:s.length≤900000):qp Tryz.prog 62 [.str s] (resV (patV s)):=by
 have g:=qbaz (qru s).1
 have g2:(qb3 (rest (newK (lexV s).1)+2) (newK (lexV s).1)).1.good:=(qh0 _ _).1 g
 have hem:=qcli (newK (lexV s).1)
 have hsz:sz ((qb3 (rest (newK (lexV s).1)+2) (newK (lexV s).1)).2.getD N0)≤1000000:=by
  cases ho:(qb3 (rest (newK (lexV s).1)+2) (newK (lexV s).1)).2 with
  | none=>rw[Option.getD_none,qiz];simp[N0,N.kids,szs]
  | some n =>
    have h1:=qbsu _ _ _ ho
    have h2:=qko (lexV s).1
    have h3:=(qru s).2
    have h4:rest (newK (lexV s).1)=(qie (lexV s).1).length:=rfl
    simp only[Option.getD_some]
    omega
 have hdp:=q2x hsz
 refine qe c0dj (by simp) (by simp only[go_sem]) (by simp only[go_sem]) fun hw=>?_
 repeat'(first|refine vs_ ?_|((first|refine vr_ ?_|refine qb (quc s) fun _=>?_|refine q43 (qbkk _ (qru s).1) (qbh _ _) (by simp only[go_sem]) ?_|refine q0p 1 (qbqs (rest (newK (lexV s).1)+2) _ g (by omega)) (by rfl) (qbh _ _) (qbh _ _) (by rfl) (qbaf _ _) (by rfl) fun _=>?_|refine q0p 1 (qclq _ g2.ok) (by rfl) (qbh _ _) (qbh _ _) (by rfl) (by rfl) (by rfl) fun _=>?_|refine qb (qow (qbaa _) (by rw[hdp])) fun _=>?_|refine qf (quc s) ?_|refine qf (qow (qbaa _) (by rw[hdp])) ?_|(refine cs_ ?_ ?_<;>intro hc)|refine cj_ ?_)<;>try refine ev_ ?_)|with_reducible exact ti_)
 all_goals(try rw[q5b])
 all_goals unfold patV qbl0
 all_goals(repeat' split)
 all_goals first | omega | rfl | (exfalso;omega) | simp_all[go_sem]
set_option maxRecDepth 4000

/-! what a kind has -/
set_option maxRecDepth 4000

set_option maxRecDepth 4000

/-! terms, down to some depth -/
set_option maxRecDepth 4000

theorem qpn(n:Nat)(l:List Tm):(encTs l).drop n=encTs (l.drop n):=by rw[encTs_map,encTs_map,List.map_drop]
theorem qpt(n:Nat)(l:List Tm):(encTs l).take n=encTs (l.take n):=by rw[encTs_map,encTs_map,List.map_take]
set_option maxRecDepth 4000

set_option maxRecDepth 4000

/-! the least hole -/
end Go.Proofs.YtkenggenkmfopaaGreat
