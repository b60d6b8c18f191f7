/- Texts of this proof, joined. -/
import Derived.Test.YtlmcofjcpadmiaaGreatNbg
set_option linter.unusedVariables false
set_option linter.unusedSimpArgs false

/- declarations: the program: rows (printed by tools/rows.py) -/
set_option maxRecDepth 4000
namespace Go.Proofs.YtlmcofjcpadmiaaGreat
open Go Go.RowKit Go.V

def frA (b:Bool) (c:K):List Ent:=[curE c,.blk [.ptr 0 0]]
theorem q5a (b:Bool) (c:K):(frA b c).all (Ent.bd 2) = true:=by
 simp only [frA,List.all_cons,List.all_nil,q9,Bool.true_and,Bool.and_true];rfl
theorem qqf {g:FuncId} {b:Bool} {c c':K} {r:N×Bool} {L:List Ent} {Q:List Ent->VO->Prop} (h:VCalls Tryz.prog g [curE c,.blk [.ptr 0 0]] [.ptr 1 0] fun H' o=>H' = (frA b c')∧o = .val (resB r)) (hq:Q (curE c' :: .blk [.ptr 0 0] :: L) (.val (resB r))) :
 VApp Tryz.prog (curE c :: .blk [.ptr 0 0] :: L) (.fn g [] [.ptr 1 0]) [] Q :=
 qb3 (first:=[]) (caps:=[.ptr 1 0]) (by
  simp only [List.nil_append]
  refine qde (H0:=[curE c,.blk [.ptr 0 0]]) (L:=L) h (q5a b c) rfl ?_
  rintro H1 o ⟨rfl,rfl⟩
  exact ⟨rfl,q5a _ _,qoo _ _,hq⟩)
theorem qje {g:FuncId} {b' a:Bool} {c c':K} {L:List Ent} {Q:List Ent->VO->Prop} (h:VCalls Tryz.prog g [curE c,.blk [.ptr 0 0]] [.ptr 1 0] fun H' o=>H' = (frA b' c')∧o = .val (.bool a)) (hq:Q (curE c' :: .blk [.ptr 0 0] :: L) (.val (.bool a))) :
 VApp Tryz.prog (curE c :: .blk [.ptr 0 0] :: L) (.fn g [] [.ptr 1 0]) [] Q :=
 qb3 (first:=[]) (caps:=[.ptr 1 0]) (by
  simp only [List.nil_append]
  refine qde (H0:=[curE c,.blk [.ptr 0 0]]) (L:=L) h (q5a false c) rfl ?_
  rintro H1 o ⟨rfl,rfl⟩
  exact ⟨rfl,q5a _ _,rfl,hq⟩)
def RowA (one:K->R3) (more:MF) (g1 g2:FuncId) (b:Bool) (c:K):Prop :=
 VCalls Tryz.prog 62 [curE c,.blk [.ptr 0 0]] [.nils,.fn g1 [] [.ptr 1 0],.fn g2 [] [.ptr 1 0]] fun H' o =>
  H' = curE (rowS one more b c []).2.1 :: .blk [.ptr 0 0] :: accE 5 (encs (rowS one more b c []).2.2.1)∧o = .val (.tup [accV 2 (encs (rowS one more b c []).2.2.1),.bool (rowS one more b c []).2.2.2])
def qzn (g1 g2:FuncId) (s:Bool×Nat×K×List N):AF×List Ent :=
 (⟨[(0,accV 2 (encs s.2.2.2)),(1,.fn g1 [] [.ptr 1 0]),(2,.fn g2 [] [.ptr 1 0])],[]⟩,curE s.2.2.1 :: .blk [.ptr 0 0] :: accE 5 (encs s.2.2.2))
theorem qy8 {one:K->R3} {more:MF} {g1 g2:FuncId} {n:Nat} (ho:Goes one) (hm:MonM more)
 (h1:∀ b c,c.good->rest c≤n->VCalls Tryz.prog g1 [curE c,.blk [.ptr 0 0]] [.ptr 1 0] fun H' o=>H' = (frA b (one c).1)∧o = .val (resB (one c).2))
 (h2:∀ b c,c.good->rest c≤n->VCalls Tryz.prog g2 [curE c,.blk [.ptr 0 0]] [.ptr 1 0] fun H' o=>H' = (frA (more b c).1 (more b c).2.1)∧o = .val (.bool (more b c).2.2))
 (b0:Bool) (c0:K) (hg:c0.good) (hr:rest c0≤n):RowA one more g1 g2 b0 c0:=by
 unfold RowA
 have hl:([]:List N).length + rest c0≤1048578:=by have h9:=hg.rest;unfold rest;simp only [List.length_nil];omega
 obtain ⟨kk,hk1,hk2,hk0⟩:∃ k:Nat,((rowS one more b0 c0 []).2.2.1 = []->k = 2)∧((rowS one more b0 c0 []).2.2.1≠[]->k = 3)∧2≤k:=by
  by_cases h:(rowS one more b0 c0 []).2.2.1 = []
  ·exact ⟨2,fun _=>rfl,fun g=>absurd h g,Nat.le_refl _⟩
  ·exact ⟨3,fun g=>absurd g h,fun _=>rfl,Nat.le_succ _⟩
 refine qdx c0fk kk (by simpa using hk0) (by simp) ?_
 generalize htg:rowS one more b0 c0 [] = tg at hk1 hk2 ⊢
 unfold rowS at htg
 repeat' (first | refine vs_ ?_ | ((first | refine vr_ ?_ | (refine cs_ ?_ ?_<;>intro hc) | refine cj_ ?_ | fail)<;>(try refine ev_ ?_)) | with_reducible exact ti_)
 refine qcm (S:=Bool×Nat×K×List N) (fun s=>s.2.2.1.good∧rest s.2.2.1≤n∧rowF one more s.2.1 s.1 s.2.2.1 s.2.2.2 = tg∧rest s.2.2.1 < s.2.1∧s.2.2.2.length + rest s.2.2.1≤1048578) (qzn g1 g2) (fun s=>rest s.2.2.1) ?_ ?_
 ·refine qb1 (b0,rest c0 + 1,c0,[]) [0,1] ⟨hg,hr,htg,Nat.lt_succ_self _,hl⟩ rfl (by simp) ?_ ?_ ?_
  all_goals simp only [qzn,encs,qbl,qbo]
  all_goals (refine ev_ ?_;(try with_reducible exact ti_))
 ·rintro ⟨fl,fu,d,acc⟩ ⟨i1,i2,i3,i4,i5⟩
  simp only at i1 i2 i3 i4 i5
  obtain ⟨fu,rfl⟩:∃ k,fu = k + 1:=⟨fu - 1,by omega⟩
  rw [rowF] at i3
  have hcap:qfe (acc.length + 1) 64:=capN (by omega)
  have hmore:=h2 fl d i1 i2
  have g1:=(hm fl d).1 i1
  have r1:=(hm fl d).2.1
  have hone:=h1 (more fl d).1 (more fl d).2.1 g1 (by omega)
  have g2:=(ho.m (more fl d).2.1).1 g1
  have r2:=(ho.m (more fl d).2.1).2.1
  have hlt:=ho.l (more fl d).2.1
  unfold qzn
  generalize more fl d = M at *
  obtain ⟨fl',d',ans⟩:=M
  simp only at hmore g1 r1 hone g2 r2 hlt i3
  generalize one d' = r at *
  obtain ⟨e,y,ok⟩:=r
  simp only at hone g2 r2 hlt i3
  cases ans with
  | false =>
    rw [if_neg (by simp)] at i3
    subst i3
    by_cases h0:acc = []
    ·subst h0
     obtain rfl:=hk1 rfl
     simp only [encs,qbl,qbo]
     repeat' (first | refine vs_ ?_ | ((first | refine vr_ ?_ | refine qje hmore ?_ | (refine cs_ ?_ ?_<;>intro hc) | refine cj_ ?_ | fail)<;>(try refine ev_ ?_)) | with_reducible exact ti_)
     all_goals first | exact ⟨rfl,rfl⟩
    ·have hne:=qbf h0
     obtain rfl:=hk2 h0
     simp only [qbt hne,qbu hne,qbc]
     repeat' (first | refine vs_ ?_ | ((first | refine vr_ ?_ | refine qje hmore ?_ | (refine cs_ ?_ ?_<;>intro hc) | refine cj_ ?_ | fail)<;>(try refine ev_ ?_)) | with_reducible exact ti_)
     all_goals first | exact ⟨rfl,rfl⟩
  | true =>
    rw [if_pos rfl] at i3
    cases ok with
    | false =>
      rw [if_neg (by simp)] at i3
      subst i3
      by_cases h0:acc = []
      ·subst h0
       obtain rfl:=hk1 rfl
       simp only [encs,qbl,qbo]
       repeat' (first | refine vs_ ?_ | ((first | refine vr_ ?_ | refine qje hmore ?_ | refine qqf hone ?_ | (refine cs_ ?_ ?_<;>intro hc) | refine cj_ ?_ | fail)<;>(try refine ev_ ?_)) | with_reducible exact ti_)
       all_goals first | exact ⟨rfl,rfl⟩
      ·have hne:=qbf h0
       obtain rfl:=hk2 h0
       simp only [qbt hne,qbu hne,qbc]
       repeat' (first | refine vs_ ?_ | ((first | refine vr_ ?_ | refine qje hmore ?_ | refine qqf hone ?_ | (refine cs_ ?_ ?_<;>intro hc) | refine cj_ ?_ | fail)<;>(try refine ev_ ?_)) | with_reducible exact ti_)
       all_goals first | exact ⟨rfl,rfl⟩
    | true =>
      have hlt:=hlt rfl
      rw [if_pos rfl] at i3
      have hne3:¬ acc ++ [y] = []:=by simp
      have hlen:(acc ++ [y]).length = acc.length + 1:=by simp
      by_cases h0:acc = []
      ·subst h0
       simp only [encs,qbl,qbo]
       repeat' (first | refine vs_ ?_ | ((first | refine vr_ ?_ | refine qje hmore ?_ | refine qqf hone ?_ | (refine cs_ ?_ ?_<;>intro hc) | refine cj_ ?_ | fail)<;>(try refine ev_ ?_)) | with_reducible exact ti_)
       refine qb1 (fl',fu,e,[] ++ [y]) [0,1,3] ⟨⟨g2,by simp only;omega,i3,by simp only;omega,by simp only [hlen];omega⟩,by simp only;omega⟩ rfl (by simp) ?_ ?_ ?_
       all_goals simp only [qzn,qbu (qbf hne3),qbt (qbf hne3),qbc,hlen,← ql]
       all_goals (refine ev_ ?_;(try with_reducible exact ti_))
       all_goals first | (rw [ql];exact q7 _ _) | exact ⟨rfl,rfl⟩ | rfl | (rw [ql,q7,qbs];exact ⟨rfl,rfl⟩)
      ·have hne:=qbf h0
       simp only [qbt hne,qbu hne,qbc]
       repeat' (first | refine vs_ ?_ | ((first | refine vr_ ?_ | refine qje hmore ?_ | refine qqf hone ?_ | (refine cs_ ?_ ?_<;>intro hc) | refine cj_ ?_ | fail)<;>(try refine ev_ ?_)) | with_reducible exact ti_)
       refine qb1 (fl',fu,e,acc ++ [y]) [0,1,4] ⟨⟨g2,by simp only;omega,i3,by simp only;omega,by simp only [hlen];omega⟩,by simp only;omega⟩ rfl (by simp) ?_ ?_ ?_
       all_goals simp only [qzn,qbu (qbf hne3),qbt (qbf hne3),qbc,hlen,← ql]
       all_goals (refine ev_ ?_;(try with_reducible exact ti_))
       all_goals first | (rw [ql];exact q7 _ _) | exact ⟨rfl,rfl⟩ | rfl | (rw [ql,q7,qbs];exact ⟨rfl,rfl⟩)

def frD (x:List UInt8) (b:Bool) (c:K):List Ent:=[curE c,.blk [.ptr 0 0],.blk [.ptr 0 0],.blk [.str x],.blk [.bool b]]
theorem q5g {x:List UInt8} (b:Bool) (c:K):(frD x b c).all (Ent.bd 5) = true:=by
 simp only [frD,List.all_cons,List.all_nil,q9,Bool.true_and,Bool.and_true];rfl
theorem qh7 {g:FuncId} {x:List UInt8} {b:Bool} {c c':K} {r:N×Bool} {L:List Ent} {Q:List Ent->VO->Prop} (h:VCalls Tryz.prog g [curE c,.blk [.ptr 0 0],.blk [.ptr 0 0],.blk [.str x],.blk [.bool b]] [.ptr 1 0] fun H' o=>H' = (frD x b c')∧o = .val (resB r)) (hq:Q (curE c' :: .blk [.ptr 0 0] :: .blk [.ptr 0 0] :: .blk [.str x] :: .blk [.bool b] :: L) (.val (resB r))) :
 VApp Tryz.prog (curE c :: .blk [.ptr 0 0] :: .blk [.ptr 0 0] :: .blk [.str x] :: .blk [.bool b] :: L) (.fn g [] [.ptr 1 0]) [] Q :=
 qb3 (first:=[]) (caps:=[.ptr 1 0]) (by
  simp only [List.nil_append]
  refine qde (H0:=[curE c,.blk [.ptr 0 0],.blk [.ptr 0 0],.blk [.str x],.blk [.bool b]]) (L:=L) h (q5g (x:=x) b c) rfl ?_
  rintro H1 o ⟨rfl,rfl⟩
  exact ⟨rfl,q5g _ _,qoo _ _,hq⟩)
theorem qd6 {g:FuncId} {x:List UInt8} {b b' a:Bool} {c c':K} {L:List Ent} {Q:List Ent->VO->Prop} (h:VCalls Tryz.prog g [curE c,.blk [.ptr 0 0],.blk [.ptr 0 0],.blk [.str x],.blk [.bool b]] [.ptr 4 0,.ptr 2 0,.ptr 3 0] fun H' o=>H' = (frD x b' c')∧o = .val (.bool a)) (hq:Q (curE c' :: .blk [.ptr 0 0] :: .blk [.ptr 0 0] :: .blk [.str x] :: .blk [.bool b'] :: L) (.val (.bool a))) :
 VApp Tryz.prog (curE c :: .blk [.ptr 0 0] :: .blk [.ptr 0 0] :: .blk [.str x] :: .blk [.bool b] :: L) (.fn g [] [.ptr 4 0,.ptr 2 0,.ptr 3 0]) [] Q :=
 qb3 (first:=[]) (caps:=[.ptr 4 0,.ptr 2 0,.ptr 3 0]) (by
  simp only [List.nil_append]
  refine qde (H0:=[curE c,.blk [.ptr 0 0],.blk [.ptr 0 0],.blk [.str x],.blk [.bool b]]) (L:=L) h (q5g (x:=x) b c) rfl ?_
  rintro H1 o ⟨rfl,rfl⟩
  exact ⟨rfl,q5g _ _,rfl,hq⟩)
def RowD (one:K->R3) (more:MF) (g1 g2:FuncId) (x:List UInt8) (b:Bool) (c:K):Prop :=
 VCalls Tryz.prog 62 [curE c,.blk [.ptr 0 0],.blk [.ptr 0 0],.blk [.str x],.blk [.bool b]] [.nils,.fn g1 [] [.ptr 1 0],.fn g2 [] [.ptr 4 0,.ptr 2 0,.ptr 3 0]] fun H' o =>
  H' = curE (rowS one more b c []).2.1 :: .blk [.ptr 0 0] :: .blk [.ptr 0 0] :: .blk [.str x] :: .blk [.bool (rowS one more b c []).1] :: accE 5 (encs (rowS one more b c []).2.2.1)∧o = .val (.tup [accV 5 (encs (rowS one more b c []).2.2.1),.bool (rowS one more b c []).2.2.2])
def q0r (g1 g2:FuncId) (x:List UInt8) (s:Bool×Nat×K×List N):AF×List Ent :=
 (⟨[(0,accV 5 (encs s.2.2.2)),(1,.fn g1 [] [.ptr 1 0]),(2,.fn g2 [] [.ptr 4 0,.ptr 2 0,.ptr 3 0])],[]⟩,curE s.2.2.1 :: .blk [.ptr 0 0] :: .blk [.ptr 0 0] :: .blk [.str x] :: .blk [.bool s.1] :: accE 5 (encs s.2.2.2))
theorem qbcw {one:K->R3} {more:MF} {g1 g2:FuncId} {x:List UInt8} {n:Nat} (ho:Goes one) (hm:MonM more)
 (h1:∀ b c,c.good->rest c≤n->VCalls Tryz.prog g1 [curE c,.blk [.ptr 0 0],.blk [.ptr 0 0],.blk [.str x],.blk [.bool b]] [.ptr 1 0] fun H' o=>H' = (frD x b (one c).1)∧o = .val (resB (one c).2))
 (h2:∀ b c,c.good->rest c≤n->VCalls Tryz.prog g2 [curE c,.blk [.ptr 0 0],.blk [.ptr 0 0],.blk [.str x],.blk [.bool b]] [.ptr 4 0,.ptr 2 0,.ptr 3 0] fun H' o=>H' = (frD x (more b c).1 (more b c).2.1)∧o = .val (.bool (more b c).2.2))
 (b0:Bool) (c0:K) (hg:c0.good) (hr:rest c0≤n):RowD one more g1 g2 x b0 c0:=by
 unfold RowD
 have hl:([]:List N).length + rest c0≤1048578:=by have h9:=hg.rest;unfold rest;simp only [List.length_nil];omega
 obtain ⟨kk,hk1,hk2,hk0⟩:∃ k:Nat,((rowS one more b0 c0 []).2.2.1 = []->k = 5)∧((rowS one more b0 c0 []).2.2.1≠[]->k = 6)∧5≤k:=by
  by_cases h:(rowS one more b0 c0 []).2.2.1 = []
  ·exact ⟨5,fun _=>rfl,fun g=>absurd h g,Nat.le_refl _⟩
  ·exact ⟨6,fun g=>absurd g h,fun _=>rfl,Nat.le_succ _⟩
 refine qdx c0fk kk (by simpa using hk0) (by simp) ?_
 generalize htg:rowS one more b0 c0 [] = tg at hk1 hk2 ⊢
 unfold rowS at htg
 repeat' (first | refine vs_ ?_ | ((first | refine vr_ ?_ | (refine cs_ ?_ ?_<;>intro hc) | refine cj_ ?_ | fail)<;>(try refine ev_ ?_)) | with_reducible exact ti_)
 refine qcm (S:=Bool×Nat×K×List N) (fun s=>s.2.2.1.good∧rest s.2.2.1≤n∧rowF one more s.2.1 s.1 s.2.2.1 s.2.2.2 = tg∧rest s.2.2.1 < s.2.1∧s.2.2.2.length + rest s.2.2.1≤1048578) (q0r g1 g2 x) (fun s=>rest s.2.2.1) ?_ ?_
 ·refine qb1 (b0,rest c0 + 1,c0,[]) [0,1,2,3,4] ⟨hg,hr,htg,Nat.lt_succ_self _,hl⟩ rfl (by simp) ?_ ?_ ?_
  all_goals simp only [q0r,encs,qbl,qbo]
  all_goals (refine ev_ ?_;(try with_reducible exact ti_))
 ·rintro ⟨fl,fu,d,acc⟩ ⟨i1,i2,i3,i4,i5⟩
  simp only at i1 i2 i3 i4 i5
  obtain ⟨fu,rfl⟩:∃ k,fu = k + 1:=⟨fu - 1,by omega⟩
  rw [rowF] at i3
  have hcap:qfe (acc.length + 1) 64:=capN (by omega)
  have hmore:=h2 fl d i1 i2
  have g1:=(hm fl d).1 i1
  have r1:=(hm fl d).2.1
  have hone:=h1 (more fl d).1 (more fl d).2.1 g1 (by omega)
  have g2:=(ho.m (more fl d).2.1).1 g1
  have r2:=(ho.m (more fl d).2.1).2.1
  have hlt:=ho.l (more fl d).2.1
  unfold q0r
  generalize more fl d = M at *
  obtain ⟨fl',d',ans⟩:=M
  simp only at hmore g1 r1 hone g2 r2 hlt i3
  generalize one d' = r at *
  obtain ⟨e,y,ok⟩:=r
  simp only at hone g2 r2 hlt i3
  cases ans with
  | false =>
    rw [if_neg (by simp)] at i3
    subst i3
    by_cases h0:acc = []
    ·subst h0
     obtain rfl:=hk1 rfl
     simp only [encs,qbl,qbo]
     repeat' (first | refine vs_ ?_ | ((first | refine vr_ ?_ | refine qd6 hmore ?_ | (refine cs_ ?_ ?_<;>intro hc) | refine cj_ ?_ | fail)<;>(try refine ev_ ?_)) | with_reducible exact ti_)
     all_goals first | exact ⟨rfl,rfl⟩
    ·have hne:=qbf h0
     obtain rfl:=hk2 h0
     simp only [qbt hne,qbu hne,qbc]
     repeat' (first | refine vs_ ?_ | ((first | refine vr_ ?_ | refine qd6 hmore ?_ | (refine cs_ ?_ ?_<;>intro hc) | refine cj_ ?_ | fail)<;>(try refine ev_ ?_)) | with_reducible exact ti_)
     all_goals first | exact ⟨rfl,rfl⟩
  | true =>
    rw [if_pos rfl] at i3
    cases ok with
    | false =>
      rw [if_neg (by simp)] at i3
      subst i3
      by_cases h0:acc = []
      ·subst h0
       obtain rfl:=hk1 rfl
       simp only [encs,qbl,qbo]
       repeat' (first | refine vs_ ?_ | ((first | refine vr_ ?_ | refine qd6 hmore ?_ | refine qh7 hone ?_ | (refine cs_ ?_ ?_<;>intro hc) | refine cj_ ?_ | fail)<;>(try refine ev_ ?_)) | with_reducible exact ti_)
       all_goals first | exact ⟨rfl,rfl⟩
      ·have hne:=qbf h0
       obtain rfl:=hk2 h0
       simp only [qbt hne,qbu hne,qbc]
       repeat' (first | refine vs_ ?_ | ((first | refine vr_ ?_ | refine qd6 hmore ?_ | refine qh7 hone ?_ | (refine cs_ ?_ ?_<;>intro hc) | refine cj_ ?_ | fail)<;>(try refine ev_ ?_)) | with_reducible exact ti_)
       all_goals first | exact ⟨rfl,rfl⟩
    | true =>
      have hlt:=hlt rfl
      rw [if_pos rfl] at i3
      have hne3:¬ acc ++ [y] = []:=by simp
      have hlen:(acc ++ [y]).length = acc.length + 1:=by simp
      by_cases h0:acc = []
      ·subst h0
       simp only [encs,qbl,qbo]
       repeat' (first | refine vs_ ?_ | ((first | refine vr_ ?_ | refine qd6 hmore ?_ | refine qh7 hone ?_ | (refine cs_ ?_ ?_<;>intro hc) | refine cj_ ?_ | fail)<;>(try refine ev_ ?_)) | with_reducible exact ti_)
       refine qb1 (fl',fu,e,[] ++ [y]) [0,1,2,3,4,6] ⟨⟨g2,by simp only;omega,i3,by simp only;omega,by simp only [hlen];omega⟩,by simp only;omega⟩ rfl (by simp) ?_ ?_ ?_
       all_goals simp only [q0r,qbu (qbf hne3),qbt (qbf hne3),qbc,hlen,← ql]
       all_goals (refine ev_ ?_;(try with_reducible exact ti_))
       all_goals first | (rw [ql];exact q7 _ _) | exact ⟨rfl,rfl⟩ | rfl | (rw [ql,q7,qbs];exact ⟨rfl,rfl⟩)
      ·have hne:=qbf h0
       simp only [qbt hne,qbu hne,qbc]
       repeat' (first | refine vs_ ?_ | ((first | refine vr_ ?_ | refine qd6 hmore ?_ | refine qh7 hone ?_ | (refine cs_ ?_ ?_<;>intro hc) | refine cj_ ?_ | fail)<;>(try refine ev_ ?_)) | with_reducible exact ti_)
       refine qb1 (fl',fu,e,acc ++ [y]) [0,1,2,3,4,7] ⟨⟨g2,by simp only;omega,i3,by simp only;omega,by simp only [hlen];omega⟩,by simp only;omega⟩ rfl (by simp) ?_ ?_ ?_
       all_goals simp only [q0r,qbu (qbf hne3),qbt (qbf hne3),qbc,hlen,← ql]
       all_goals (refine ev_ ?_;(try with_reducible exact ti_))
       all_goals first | (rw [ql];exact q7 _ _) | exact ⟨rfl,rfl⟩ | rfl | (rw [ql,q7,qbs];exact ⟨rfl,rfl⟩)
def RovD (one:K->R3) (more:MF) (g1 g2:FuncId) (x:List UInt8) (b:Bool) (c:K) (a0:List N):Prop :=
 VCalls Tryz.prog 62 (curE c :: .blk [.ptr 0 0] :: .blk [.ptr 0 0] :: .blk [.str x] :: .blk [.bool b] :: [.app 5 (encs a0)]) [.row 5 a0.length,.fn g1 [] [.ptr 1 0],.fn g2 [] [.ptr 4 0,.ptr 2 0,.ptr 3 0]] fun H' o =>
  ((rowS one more b c a0).2.2.1 = a0->H' = curE (rowS one more b c a0).2.1 :: .blk [.ptr 0 0] :: .blk [.ptr 0 0] :: .blk [.str x] :: .blk [.bool (rowS one more b c a0).1] :: [.app 5 (encs a0)]∧o = .val (.tup [.row 5 a0.length,.bool (rowS one more b c a0).2.2.2])) ∧
  ((rowS one more b c a0).2.2.1≠a0->H' = curE (rowS one more b c a0).2.1 :: .blk [.ptr 0 0] :: .blk [.ptr 0 0] :: .blk [.str x] :: .blk [.bool (rowS one more b c a0).1] :: .dead :: [.app 5 (encs (rowS one more b c a0).2.2.1)]∧o = .val (.tup [.row 6 (rowS one more b c a0).2.2.1.length,.bool (rowS one more b c a0).2.2.2]))
def q03 (g1 g2:FuncId) (x:List UInt8) (a0:List N) (s:Bool×Nat×K×List N):AF×List Ent :=
 if s.2.2.2.length = a0.length then (⟨[(0,.row 5 a0.length),(1,.fn g1 [] [.ptr 1 0]),(2,.fn g2 [] [.ptr 4 0,.ptr 2 0,.ptr 3 0])],[]⟩,curE s.2.2.1 :: .blk [.ptr 0 0] :: .blk [.ptr 0 0] :: .blk [.str x] :: .blk [.bool s.1] :: [.app 5 (encs a0)])
 else (⟨[(0,.row 6 s.2.2.2.length),(1,.fn g1 [] [.ptr 1 0]),(2,.fn g2 [] [.ptr 4 0,.ptr 2 0,.ptr 3 0])],[]⟩,curE s.2.2.1 :: .blk [.ptr 0 0] :: .blk [.ptr 0 0] :: .blk [.str x] :: .blk [.bool s.1] :: .dead :: [.app 5 (encs s.2.2.2)])
theorem qbei {one:K->R3} {more:MF} {g1 g2:FuncId} {x:List UInt8} {n:Nat} (ho:Goes one) (hm:MonM more)
 (h1:∀ b c,c.good->rest c≤n->VCalls Tryz.prog g1 [curE c,.blk [.ptr 0 0],.blk [.ptr 0 0],.blk [.str x],.blk [.bool b]] [.ptr 1 0] fun H' o=>H' = (frD x b (one c).1)∧o = .val (resB (one c).2))
 (h2:∀ b c,c.good->rest c≤n->VCalls Tryz.prog g2 [curE c,.blk [.ptr 0 0],.blk [.ptr 0 0],.blk [.str x],.blk [.bool b]] [.ptr 4 0,.ptr 2 0,.ptr 3 0] fun H' o=>H' = (frD x (more b c).1 (more b c).2.1)∧o = .val (.bool (more b c).2.2))
 (b0:Bool) (c0:K) (a0:List N) (hg:c0.good) (hr:rest c0≤n) (hl:a0.length + rest c0≤1048578):RovD one more g1 g2 x b0 c0 a0:=by
 unfold RovD
 obtain ⟨kk,hk1,hk2,hk0⟩:∃ k:Nat,((rowS one more b0 c0 a0).2.2.1 = a0->k = 6)∧((rowS one more b0 c0 a0).2.2.1≠a0->k = 7)∧6≤k:=by
  by_cases h:(rowS one more b0 c0 a0).2.2.1 = a0
  ·exact ⟨6,fun _=>rfl,fun g=>absurd h g,Nat.le_refl _⟩
  ·exact ⟨7,fun g=>absurd g h,fun _=>rfl,Nat.le_succ _⟩
 refine qdx c0fk kk (by simpa using hk0) (by simp) ?_
 generalize htg:rowS one more b0 c0 a0 = tg at hk1 hk2 ⊢
 unfold rowS at htg
 repeat' (first | refine vs_ ?_ | ((first | refine vr_ ?_ | (refine cs_ ?_ ?_<;>intro hc) | refine cj_ ?_ | fail)<;>(try refine ev_ ?_)) | with_reducible exact ti_)
 refine qcm (S:=Bool×Nat×K×List N) (fun s=>s.2.2.1.good∧rest s.2.2.1≤n∧rowF one more s.2.1 s.1 s.2.2.1 s.2.2.2 = tg∧rest s.2.2.1 < s.2.1∧s.2.2.2.length + rest s.2.2.1≤1048578∧a0.length≤s.2.2.2.length∧(s.2.2.2.length = a0.length->s.2.2.2 = a0)) (q03 g1 g2 x a0) (fun s=>rest s.2.2.1) ?_ ?_
 ·refine qb1 (b0,rest c0 + 1,c0,a0) [0,1,2,3,4,5] ⟨hg,hr,htg,Nat.lt_succ_self _,hl,Nat.le_refl _,fun _=>rfl⟩ rfl (by simp) ?_ ?_ ?_
  all_goals simp only [q03,if_true]
  all_goals (refine ev_ ?_;(try with_reducible exact ti_))
  all_goals first | exact q7 _ _ | exact ⟨rfl,rfl⟩ | rfl | (rw [q7,qbs];exact ⟨rfl,rfl⟩)
 ·rintro ⟨fl,fu,d,acc⟩ ⟨i1,i2,i3,i4,i5,i6,i7⟩
  simp only at i6 i7
  simp only at i1 i2 i3 i4 i5
  obtain ⟨fu,rfl⟩:∃ k,fu = k + 1:=⟨fu - 1,by omega⟩
  rw [rowF] at i3
  have hcap:qfe (acc.length + 1) 64:=capN (by omega)
  have hmore:=h2 fl d i1 i2
  have g1:=(hm fl d).1 i1
  have r1:=(hm fl d).2.1
  have hone:=h1 (more fl d).1 (more fl d).2.1 g1 (by omega)
  have g2:=(ho.m (more fl d).2.1).1 g1
  have r2:=(ho.m (more fl d).2.1).2.1
  have hlt:=ho.l (more fl d).2.1
  unfold q03
  generalize more fl d = M at *
  obtain ⟨fl',d',ans⟩:=M
  simp only at hmore g1 r1 hone g2 r2 hlt i3
  generalize one d' = r at *
  obtain ⟨e,y,ok⟩:=r
  simp only at hone g2 r2 hlt i3
  have hneA:¬ acc.length + 1 = a0.length:=by omega
  have hlen:(acc ++ [y]).length = acc.length + 1:=by simp
  by_cases h0:acc = a0
  ·have h0l:acc.length = a0.length:=by rw [h0]
   simp only [if_pos h0l]
   cases ans with
   | false =>
     rw [if_neg (by simp)] at i3
     subst i3
     obtain rfl:=hk1 h0
     repeat' (first | refine vs_ ?_ | ((first | refine vr_ ?_ | refine qd6 hmore ?_ | (refine cs_ ?_ ?_<;>intro hc) | refine cj_ ?_ | fail)<;>(try refine ev_ ?_)) | with_reducible exact ti_)
     all_goals exact ⟨fun _=>by first | trivial | exact ⟨rfl,rfl⟩,fun g=>absurd h0 g⟩
   | true =>
     rw [if_pos rfl] at i3
     cases ok with
     | false =>
       rw [if_neg (by simp)] at i3
       subst i3
       obtain rfl:=hk1 h0
       repeat' (first | refine vs_ ?_ | ((first | refine vr_ ?_ | refine qd6 hmore ?_ | refine qh7 hone ?_ | (refine cs_ ?_ ?_<;>intro hc) | refine cj_ ?_ | fail)<;>(try refine ev_ ?_)) | with_reducible exact ti_)
       all_goals exact ⟨fun _=>by first | trivial | exact ⟨rfl,rfl⟩,fun g=>absurd h0 g⟩
     | true =>
       have hlt:=hlt rfl
       rw [if_pos rfl] at i3
       subst h0
       repeat' (first | refine vs_ ?_ | ((first | refine vr_ ?_ | refine qd6 hmore ?_ | refine qh7 hone ?_ | (refine cs_ ?_ ?_<;>intro hc) | refine cj_ ?_ | fail)<;>(try refine ev_ ?_)) | with_reducible exact ti_)
       refine qb1 (fl',fu,e,acc ++ [y]) [0,1,2,3,4,5,7] ⟨⟨g2,by simp only;omega,i3,by simp only;omega,by simp only [hlen];omega,by simp only [hlen];omega,fun h=>by simp only [hlen] at h;omega⟩,by simp only;omega⟩ rfl (by simp) ?_ ?_ ?_
       all_goals simp only [q03,hlen,if_neg hneA,← ql]
       all_goals (refine ev_ ?_;(try with_reducible exact ti_))
       all_goals first | (rw [ql];exact q7 _ _) | exact ⟨rfl,rfl⟩ | rfl | (rw [ql,q7,qbs];exact ⟨rfl,rfl⟩)
  ·have h0l:¬ acc.length = a0.length:=fun h=>h0 (i7 h)
   simp only [if_neg h0l]
   cases ans with
   | false =>
     rw [if_neg (by simp)] at i3
     subst i3
     obtain rfl:=hk2 h0
     repeat' (first | refine vs_ ?_ | ((first | refine vr_ ?_ | refine qd6 hmore ?_ | (refine cs_ ?_ ?_<;>intro hc) | refine cj_ ?_ | fail)<;>(try refine ev_ ?_)) | with_reducible exact ti_)
     all_goals exact ⟨fun g=>absurd g h0,fun _=>by first | trivial | exact ⟨rfl,rfl⟩⟩
   | true =>
     rw [if_pos rfl] at i3
     cases ok with
     | false =>
       rw [if_neg (by simp)] at i3
       subst i3
       obtain rfl:=hk2 h0
       repeat' (first | refine vs_ ?_ | ((first | refine vr_ ?_ | refine qd6 hmore ?_ | refine qh7 hone ?_ | (refine cs_ ?_ ?_<;>intro hc) | refine cj_ ?_ | fail)<;>(try refine ev_ ?_)) | with_reducible exact ti_)
       all_goals exact ⟨fun g=>absurd g h0,fun _=>by first | trivial | exact ⟨rfl,rfl⟩⟩
     | true =>
       have hlt:=hlt rfl
       rw [if_pos rfl] at i3
       repeat' (first | refine vs_ ?_ | ((first | refine vr_ ?_ | refine qd6 hmore ?_ | refine qh7 hone ?_ | (refine cs_ ?_ ?_<;>intro hc) | refine cj_ ?_ | fail)<;>(try refine ev_ ?_)) | with_reducible exact ti_)
       refine qb1 (fl',fu,e,acc ++ [y]) [0,1,2,3,4,5,8] ⟨⟨g2,by simp only;omega,i3,by simp only;omega,by simp only [hlen];omega,by simp only [hlen];omega,fun h=>by simp only [hlen] at h;omega⟩,by simp only;omega⟩ rfl (by simp) ?_ ?_ ?_
       all_goals simp only [q03,hlen,if_neg hneA,← ql]
       all_goals (refine ev_ ?_;(try with_reducible exact ti_))
       all_goals first | (rw [ql];exact q7 _ _) | exact ⟨rfl,rfl⟩ | rfl | (rw [ql,q7,qbs];exact ⟨rfl,rfl⟩)

def frP (x:List UInt8) (b:Bool) (c:K):List Ent:=[curE c,.blk [.ptr 0 0],.blk [.ptr 0 0],.blk [.str x],.blk [.bool b],.blk [.fn 104 [] [.ptr 4 0,.ptr 2 0,.ptr 3 0]]]
theorem q4c {x:List UInt8} (b:Bool) (c:K):(frP x b c).all (Ent.bd 6) = true:=by
 simp only [frP,List.all_cons,List.all_nil,q9,Bool.true_and,Bool.and_true];rfl
theorem qqs {g:FuncId} {x:List UInt8} {b:Bool} {c c':K} {r:N×Bool} {L:List Ent} {Q:List Ent->VO->Prop} (h:VCalls Tryz.prog g [curE c,.blk [.ptr 0 0],.blk [.ptr 0 0],.blk [.str x],.blk [.bool b],.blk [.fn 104 [] [.ptr 4 0,.ptr 2 0,.ptr 3 0]]] [.ptr 1 0] fun H' o=>H' = (frP x b c')∧o = .val (resB r)) (hq:Q (curE c' :: .blk [.ptr 0 0] :: .blk [.ptr 0 0] :: .blk [.str x] :: .blk [.bool b] :: .blk [.fn 104 [] [.ptr 4 0,.ptr 2 0,.ptr 3 0]] :: L) (.val (resB r))) :
 VApp Tryz.prog (curE c :: .blk [.ptr 0 0] :: .blk [.ptr 0 0] :: .blk [.str x] :: .blk [.bool b] :: .blk [.fn 104 [] [.ptr 4 0,.ptr 2 0,.ptr 3 0]] :: L) (.fn g [] [.ptr 1 0]) [] Q :=
 qb3 (first:=[]) (caps:=[.ptr 1 0]) (by
  simp only [List.nil_append]
  refine qde (H0:=[curE c,.blk [.ptr 0 0],.blk [.ptr 0 0],.blk [.str x],.blk [.bool b],.blk [.fn 104 [] [.ptr 4 0,.ptr 2 0,.ptr 3 0]]]) (L:=L) h (q4c (x:=x) b c) rfl ?_
  rintro H1 o ⟨rfl,rfl⟩
  exact ⟨rfl,q4c _ _,qoo _ _,hq⟩)
theorem qix {g:FuncId} {x:List UInt8} {b b' a:Bool} {c c':K} {L:List Ent} {Q:List Ent->VO->Prop} (h:VCalls Tryz.prog g [curE c,.blk [.ptr 0 0],.blk [.ptr 0 0],.blk [.str x],.blk [.bool b],.blk [.fn 104 [] [.ptr 4 0,.ptr 2 0,.ptr 3 0]]] [.ptr 1 0,.ptr 5 0] fun H' o=>H' = (frP x b' c')∧o = .val (.bool a)) (hq:Q (curE c' :: .blk [.ptr 0 0] :: .blk [.ptr 0 0] :: .blk [.str x] :: .blk [.bool b'] :: .blk [.fn 104 [] [.ptr 4 0,.ptr 2 0,.ptr 3 0]] :: L) (.val (.bool a))) :
 VApp Tryz.prog (curE c :: .blk [.ptr 0 0] :: .blk [.ptr 0 0] :: .blk [.str x] :: .blk [.bool b] :: .blk [.fn 104 [] [.ptr 4 0,.ptr 2 0,.ptr 3 0]] :: L) (.fn g [] [.ptr 1 0,.ptr 5 0]) [] Q :=
 qb3 (first:=[]) (caps:=[.ptr 1 0,.ptr 5 0]) (by
  simp only [List.nil_append]
  refine qde (H0:=[curE c,.blk [.ptr 0 0],.blk [.ptr 0 0],.blk [.str x],.blk [.bool b],.blk [.fn 104 [] [.ptr 4 0,.ptr 2 0,.ptr 3 0]]]) (L:=L) h (q4c (x:=x) b c) rfl ?_
  rintro H1 o ⟨rfl,rfl⟩
  exact ⟨rfl,q4c _ _,rfl,hq⟩)
def RowP (one:K->R3) (more:MF) (g1 g2:FuncId) (x:List UInt8) (b:Bool) (c:K):Prop :=
 VCalls Tryz.prog 62 [curE c,.blk [.ptr 0 0],.blk [.ptr 0 0],.blk [.str x],.blk [.bool b],.blk [.fn 104 [] [.ptr 4 0,.ptr 2 0,.ptr 3 0]]] [.nils,.fn g1 [] [.ptr 1 0],.fn g2 [] [.ptr 1 0,.ptr 5 0]] fun H' o =>
  H' = curE (rowS one more b c []).2.1 :: .blk [.ptr 0 0] :: .blk [.ptr 0 0] :: .blk [.str x] :: .blk [.bool (rowS one more b c []).1] :: .blk [.fn 104 [] [.ptr 4 0,.ptr 2 0,.ptr 3 0]] :: accE 5 (encs (rowS one more b c []).2.2.1)∧o = .val (.tup [accV 6 (encs (rowS one more b c []).2.2.1),.bool (rowS one more b c []).2.2.2])
def q0b (g1 g2:FuncId) (x:List UInt8) (s:Bool×Nat×K×List N):AF×List Ent :=
 (⟨[(0,accV 6 (encs s.2.2.2)),(1,.fn g1 [] [.ptr 1 0]),(2,.fn g2 [] [.ptr 1 0,.ptr 5 0])],[]⟩,curE s.2.2.1 :: .blk [.ptr 0 0] :: .blk [.ptr 0 0] :: .blk [.str x] :: .blk [.bool s.1] :: .blk [.fn 104 [] [.ptr 4 0,.ptr 2 0,.ptr 3 0]] :: accE 5 (encs s.2.2.2))
theorem qbfk {one:K->R3} {more:MF} {g1 g2:FuncId} {x:List UInt8} {n:Nat} (ho:Goes one) (hm:MonM more)
 (h1:∀ b c,c.good->rest c≤n->VCalls Tryz.prog g1 [curE c,.blk [.ptr 0 0],.blk [.ptr 0 0],.blk [.str x],.blk [.bool b],.blk [.fn 104 [] [.ptr 4 0,.ptr 2 0,.ptr 3 0]]] [.ptr 1 0] fun H' o=>H' = (frP x b (one c).1)∧o = .val (resB (one c).2))
 (h2:∀ b c,c.good->rest c≤n->VCalls Tryz.prog g2 [curE c,.blk [.ptr 0 0],.blk [.ptr 0 0],.blk [.str x],.blk [.bool b],.blk [.fn 104 [] [.ptr 4 0,.ptr 2 0,.ptr 3 0]]] [.ptr 1 0,.ptr 5 0] fun H' o=>H' = (frP x (more b c).1 (more b c).2.1)∧o = .val (.bool (more b c).2.2))
 (b0:Bool) (c0:K) (hg:c0.good) (hr:rest c0≤n):RowP one more g1 g2 x b0 c0:=by
 unfold RowP
 have hl:([]:List N).length + rest c0≤1048578:=by have h9:=hg.rest;unfold rest;simp only [List.length_nil];omega
 obtain ⟨kk,hk1,hk2,hk0⟩:∃ k:Nat,((rowS one more b0 c0 []).2.2.1 = []->k = 6)∧((rowS one more b0 c0 []).2.2.1≠[]->k = 7)∧6≤k:=by
  by_cases h:(rowS one more b0 c0 []).2.2.1 = []
  ·exact ⟨6,fun _=>rfl,fun g=>absurd h g,Nat.le_refl _⟩
  ·exact ⟨7,fun g=>absurd g h,fun _=>rfl,Nat.le_succ _⟩
 refine qdx c0fk kk (by simpa using hk0) (by simp) ?_
 generalize htg:rowS one more b0 c0 [] = tg at hk1 hk2 ⊢
 unfold rowS at htg
 repeat' (first | refine vs_ ?_ | ((first | refine vr_ ?_ | (refine cs_ ?_ ?_<;>intro hc) | refine cj_ ?_ | fail)<;>(try refine ev_ ?_)) | with_reducible exact ti_)
 refine qcm (S:=Bool×Nat×K×List N) (fun s=>s.2.2.1.good∧rest s.2.2.1≤n∧rowF one more s.2.1 s.1 s.2.2.1 s.2.2.2 = tg∧rest s.2.2.1 < s.2.1∧s.2.2.2.length + rest s.2.2.1≤1048578) (q0b g1 g2 x) (fun s=>rest s.2.2.1) ?_ ?_
 ·refine qb1 (b0,rest c0 + 1,c0,[]) [0,1,2,3,4,5] ⟨hg,hr,htg,Nat.lt_succ_self _,hl⟩ rfl (by simp) ?_ ?_ ?_
  all_goals simp only [q0b,encs,qbl,qbo]
  all_goals (refine ev_ ?_;(try with_reducible exact ti_))
 ·rintro ⟨fl,fu,d,acc⟩ ⟨i1,i2,i3,i4,i5⟩
  simp only at i1 i2 i3 i4 i5
  obtain ⟨fu,rfl⟩:∃ k,fu = k + 1:=⟨fu - 1,by omega⟩
  rw [rowF] at i3
  have hcap:qfe (acc.length + 1) 64:=capN (by omega)
  have hmore:=h2 fl d i1 i2
  have g1:=(hm fl d).1 i1
  have r1:=(hm fl d).2.1
  have hone:=h1 (more fl d).1 (more fl d).2.1 g1 (by omega)
  have g2:=(ho.m (more fl d).2.1).1 g1
  have r2:=(ho.m (more fl d).2.1).2.1
  have hlt:=ho.l (more fl d).2.1
  unfold q0b
  generalize more fl d = M at *
  obtain ⟨fl',d',ans⟩:=M
  simp only at hmore g1 r1 hone g2 r2 hlt i3
  generalize one d' = r at *
  obtain ⟨e,y,ok⟩:=r
  simp only at hone g2 r2 hlt i3
  cases ans with
  | false =>
    rw [if_neg (by simp)] at i3
    subst i3
    by_cases h0:acc = []
    ·subst h0
     obtain rfl:=hk1 rfl
     simp only [encs,qbl,qbo]
     repeat' (first | refine vs_ ?_ | ((first | refine vr_ ?_ | refine qix hmore ?_ | (refine cs_ ?_ ?_<;>intro hc) | refine cj_ ?_ | fail)<;>(try refine ev_ ?_)) | with_reducible exact ti_)
     all_goals first | exact ⟨rfl,rfl⟩
    ·have hne:=qbf h0
     obtain rfl:=hk2 h0
     simp only [qbt hne,qbu hne,qbc]
     repeat' (first | refine vs_ ?_ | ((first | refine vr_ ?_ | refine qix hmore ?_ | (refine cs_ ?_ ?_<;>intro hc) | refine cj_ ?_ | fail)<;>(try refine ev_ ?_)) | with_reducible exact ti_)
     all_goals first | exact ⟨rfl,rfl⟩
  | true =>
    rw [if_pos rfl] at i3
    cases ok with
    | false =>
      rw [if_neg (by simp)] at i3
      subst i3
      by_cases h0:acc = []
      ·subst h0
       obtain rfl:=hk1 rfl
       simp only [encs,qbl,qbo]
       repeat' (first | refine vs_ ?_ | ((first | refine vr_ ?_ | refine qix hmore ?_ | refine qqs hone ?_ | (refine cs_ ?_ ?_<;>intro hc) | refine cj_ ?_ | fail)<;>(try refine ev_ ?_)) | with_reducible exact ti_)
       all_goals first | exact ⟨rfl,rfl⟩
      ·have hne:=qbf h0
       obtain rfl:=hk2 h0
       simp only [qbt hne,qbu hne,qbc]
       repeat' (first | refine vs_ ?_ | ((first | refine vr_ ?_ | refine qix hmore ?_ | refine qqs hone ?_ | (refine cs_ ?_ ?_<;>intro hc) | refine cj_ ?_ | fail)<;>(try refine ev_ ?_)) | with_reducible exact ti_)
       all_goals first | exact ⟨rfl,rfl⟩
    | true =>
      have hlt:=hlt rfl
      rw [if_pos rfl] at i3
      have hne3:¬ acc ++ [y] = []:=by simp
      have hlen:(acc ++ [y]).length = acc.length + 1:=by simp
      by_cases h0:acc = []
      ·subst h0
       simp only [encs,qbl,qbo]
       repeat' (first | refine vs_ ?_ | ((first | refine vr_ ?_ | refine qix hmore ?_ | refine qqs hone ?_ | (refine cs_ ?_ ?_<;>intro hc) | refine cj_ ?_ | fail)<;>(try refine ev_ ?_)) | with_reducible exact ti_)
       refine qb1 (fl',fu,e,[] ++ [y]) [0,1,2,3,4,5,7] ⟨⟨g2,by simp only;omega,i3,by simp only;omega,by simp only [hlen];omega⟩,by simp only;omega⟩ rfl (by simp) ?_ ?_ ?_
       all_goals simp only [q0b,qbu (qbf hne3),qbt (qbf hne3),qbc,hlen,← ql]
       all_goals (refine ev_ ?_;(try with_reducible exact ti_))
       all_goals first | (rw [ql];exact q7 _ _) | exact ⟨rfl,rfl⟩ | rfl | (rw [ql,q7,qbs];exact ⟨rfl,rfl⟩)
      ·have hne:=qbf h0
       simp only [qbt hne,qbu hne,qbc]
       repeat' (first | refine vs_ ?_ | ((first | refine vr_ ?_ | refine qix hmore ?_ | refine qqs hone ?_ | (refine cs_ ?_ ?_<;>intro hc) | refine cj_ ?_ | fail)<;>(try refine ev_ ?_)) | with_reducible exact ti_)
       refine qb1 (fl',fu,e,acc ++ [y]) [0,1,2,3,4,5,8] ⟨⟨g2,by simp only;omega,i3,by simp only;omega,by simp only [hlen];omega⟩,by simp only;omega⟩ rfl (by simp) ?_ ?_ ?_
       all_goals simp only [q0b,qbu (qbf hne3),qbt (qbf hne3),qbc,hlen,← ql]
       all_goals (refine ev_ ?_;(try with_reducible exact ti_))
       all_goals first | (rw [ql];exact q7 _ _) | exact ⟨rfl,rfl⟩ | rfl | (rw [ql,q7,qbs];exact ⟨rfl,rfl⟩)

def frB (x:List UInt8) (kd:Int) (b:Bool) (c:K):List Ent:=[curE c,.blk [.ptr 0 0],.blk [.ptr 0 0],.blk [.str x],.blk [.bool b],.blk [.fn 104 [] [.ptr 4 0,.ptr 2 0,.ptr 3 0]],.blk [.int .i64 kd]]
theorem q6k {x:List UInt8} {kd:Int} (b:Bool) (c:K):(frB x kd b c).all (Ent.bd 7) = true:=by
 simp only [frB,List.all_cons,List.all_nil,q9,Bool.true_and,Bool.and_true];rfl
theorem qqq {g:FuncId} {x:List UInt8} {kd:Int} {b:Bool} {c c':K} {r:N×Bool} {L:List Ent} {Q:List Ent->VO->Prop} (h:VCalls Tryz.prog g [curE c,.blk [.ptr 0 0],.blk [.ptr 0 0],.blk [.str x],.blk [.bool b],.blk [.fn 104 [] [.ptr 4 0,.ptr 2 0,.ptr 3 0]],.blk [.int .i64 kd]] [.ptr 1 0,.ptr 6 0] fun H' o=>H' = (frB x kd b c')∧o = .val (resB r)) (hq:Q (curE c' :: .blk [.ptr 0 0] :: .blk [.ptr 0 0] :: .blk [.str x] :: .blk [.bool b] :: .blk [.fn 104 [] [.ptr 4 0,.ptr 2 0,.ptr 3 0]] :: .blk [.int .i64 kd] :: L) (.val (resB r))) :
 VApp Tryz.prog (curE c :: .blk [.ptr 0 0] :: .blk [.ptr 0 0] :: .blk [.str x] :: .blk [.bool b] :: .blk [.fn 104 [] [.ptr 4 0,.ptr 2 0,.ptr 3 0]] :: .blk [.int .i64 kd] :: L) (.fn g [] [.ptr 1 0,.ptr 6 0]) [] Q :=
 qb3 (first:=[]) (caps:=[.ptr 1 0,.ptr 6 0]) (by
  simp only [List.nil_append]
  refine qde (H0:=[curE c,.blk [.ptr 0 0],.blk [.ptr 0 0],.blk [.str x],.blk [.bool b],.blk [.fn 104 [] [.ptr 4 0,.ptr 2 0,.ptr 3 0]],.blk [.int .i64 kd]]) (L:=L) h (q6k (x:=x) (kd:=kd) b c) rfl ?_
  rintro H1 o ⟨rfl,rfl⟩
  exact ⟨rfl,q6k _ _,qoo _ _,hq⟩)
theorem qiy {g:FuncId} {x:List UInt8} {kd:Int} {b b' a:Bool} {c c':K} {L:List Ent} {Q:List Ent->VO->Prop} (h:VCalls Tryz.prog g [curE c,.blk [.ptr 0 0],.blk [.ptr 0 0],.blk [.str x],.blk [.bool b],.blk [.fn 104 [] [.ptr 4 0,.ptr 2 0,.ptr 3 0]],.blk [.int .i64 kd]] [.ptr 1 0,.ptr 5 0] fun H' o=>H' = (frB x kd b' c')∧o = .val (.bool a)) (hq:Q (curE c' :: .blk [.ptr 0 0] :: .blk [.ptr 0 0] :: .blk [.str x] :: .blk [.bool b'] :: .blk [.fn 104 [] [.ptr 4 0,.ptr 2 0,.ptr 3 0]] :: .blk [.int .i64 kd] :: L) (.val (.bool a))) :
 VApp Tryz.prog (curE c :: .blk [.ptr 0 0] :: .blk [.ptr 0 0] :: .blk [.str x] :: .blk [.bool b] :: .blk [.fn 104 [] [.ptr 4 0,.ptr 2 0,.ptr 3 0]] :: .blk [.int .i64 kd] :: L) (.fn g [] [.ptr 1 0,.ptr 5 0]) [] Q :=
 qb3 (first:=[]) (caps:=[.ptr 1 0,.ptr 5 0]) (by
  simp only [List.nil_append]
  refine qde (H0:=[curE c,.blk [.ptr 0 0],.blk [.ptr 0 0],.blk [.str x],.blk [.bool b],.blk [.fn 104 [] [.ptr 4 0,.ptr 2 0,.ptr 3 0]],.blk [.int .i64 kd]]) (L:=L) h (q6k (x:=x) (kd:=kd) b c) rfl ?_
  rintro H1 o ⟨rfl,rfl⟩
  exact ⟨rfl,q6k _ _,rfl,hq⟩)
def RovB (one:K->R3) (more:MF) (g1 g2:FuncId) (x:List UInt8) (kd:Int) (b:Bool) (c:K) (a0:List N):Prop :=
 VCalls Tryz.prog 62 (curE c :: .blk [.ptr 0 0] :: .blk [.ptr 0 0] :: .blk [.str x] :: .blk [.bool b] :: .blk [.fn 104 [] [.ptr 4 0,.ptr 2 0,.ptr 3 0]] :: .blk [.int .i64 kd] :: [.app 5 (encs a0)]) [.row 7 a0.length,.fn g1 [] [.ptr 1 0,.ptr 6 0],.fn g2 [] [.ptr 1 0,.ptr 5 0]] fun H' o =>
  ((rowS one more b c a0).2.2.1 = a0->H' = curE (rowS one more b c a0).2.1 :: .blk [.ptr 0 0] :: .blk [.ptr 0 0] :: .blk [.str x] :: .blk [.bool (rowS one more b c a0).1] :: .blk [.fn 104 [] [.ptr 4 0,.ptr 2 0,.ptr 3 0]] :: .blk [.int .i64 kd] :: [.app 5 (encs a0)]∧o = .val (.tup [.row 7 a0.length,.bool (rowS one more b c a0).2.2.2])) ∧
  ((rowS one more b c a0).2.2.1≠a0->H' = curE (rowS one more b c a0).2.1 :: .blk [.ptr 0 0] :: .blk [.ptr 0 0] :: .blk [.str x] :: .blk [.bool (rowS one more b c a0).1] :: .blk [.fn 104 [] [.ptr 4 0,.ptr 2 0,.ptr 3 0]] :: .blk [.int .i64 kd] :: .dead :: [.app 5 (encs (rowS one more b c a0).2.2.1)]∧o = .val (.tup [.row 8 (rowS one more b c a0).2.2.1.length,.bool (rowS one more b c a0).2.2.2]))
def q1z (g1 g2:FuncId) (x:List UInt8) (kd:Int) (a0:List N) (s:Bool×Nat×K×List N):AF×List Ent :=
 if s.2.2.2.length = a0.length then (⟨[(0,.row 7 a0.length),(1,.fn g1 [] [.ptr 1 0,.ptr 6 0]),(2,.fn g2 [] [.ptr 1 0,.ptr 5 0])],[]⟩,curE s.2.2.1 :: .blk [.ptr 0 0] :: .blk [.ptr 0 0] :: .blk [.str x] :: .blk [.bool s.1] :: .blk [.fn 104 [] [.ptr 4 0,.ptr 2 0,.ptr 3 0]] :: .blk [.int .i64 kd] :: [.app 5 (encs a0)])
 else (⟨[(0,.row 8 s.2.2.2.length),(1,.fn g1 [] [.ptr 1 0,.ptr 6 0]),(2,.fn g2 [] [.ptr 1 0,.ptr 5 0])],[]⟩,curE s.2.2.1 :: .blk [.ptr 0 0] :: .blk [.ptr 0 0] :: .blk [.str x] :: .blk [.bool s.1] :: .blk [.fn 104 [] [.ptr 4 0,.ptr 2 0,.ptr 3 0]] :: .blk [.int .i64 kd] :: .dead :: [.app 5 (encs s.2.2.2)])
theorem qbfu {one:K->R3} {more:MF} {g1 g2:FuncId} {x:List UInt8} {kd:Int} {n:Nat} (ho:Goes one) (hm:MonM more)
 (h1:∀ b c,c.good->rest c≤n->VCalls Tryz.prog g1 [curE c,.blk [.ptr 0 0],.blk [.ptr 0 0],.blk [.str x],.blk [.bool b],.blk [.fn 104 [] [.ptr 4 0,.ptr 2 0,.ptr 3 0]],.blk [.int .i64 kd]] [.ptr 1 0,.ptr 6 0] fun H' o=>H' = (frB x kd b (one c).1)∧o = .val (resB (one c).2))
 (h2:∀ b c,c.good->rest c≤n->VCalls Tryz.prog g2 [curE c,.blk [.ptr 0 0],.blk [.ptr 0 0],.blk [.str x],.blk [.bool b],.blk [.fn 104 [] [.ptr 4 0,.ptr 2 0,.ptr 3 0]],.blk [.int .i64 kd]] [.ptr 1 0,.ptr 5 0] fun H' o=>H' = (frB x kd (more b c).1 (more b c).2.1)∧o = .val (.bool (more b c).2.2))
 (b0:Bool) (c0:K) (a0:List N) (hg:c0.good) (hr:rest c0≤n) (hl:a0.length + rest c0≤1048578):RovB one more g1 g2 x kd b0 c0 a0:=by
 unfold RovB
 obtain ⟨kk,hk1,hk2,hk0⟩:∃ k:Nat,((rowS one more b0 c0 a0).2.2.1 = a0->k = 8)∧((rowS one more b0 c0 a0).2.2.1≠a0->k = 9)∧8≤k:=by
  by_cases h:(rowS one more b0 c0 a0).2.2.1 = a0
  ·exact ⟨8,fun _=>rfl,fun g=>absurd h g,Nat.le_refl _⟩
  ·exact ⟨9,fun g=>absurd g h,fun _=>rfl,Nat.le_succ _⟩
 refine qdx c0fk kk (by simpa using hk0) (by simp) ?_
 generalize htg:rowS one more b0 c0 a0 = tg at hk1 hk2 ⊢
 unfold rowS at htg
 repeat' (first | refine vs_ ?_ | ((first | refine vr_ ?_ | (refine cs_ ?_ ?_<;>intro hc) | refine cj_ ?_ | fail)<;>(try refine ev_ ?_)) | with_reducible exact ti_)
 refine qcm (S:=Bool×Nat×K×List N) (fun s=>s.2.2.1.good∧rest s.2.2.1≤n∧rowF one more s.2.1 s.1 s.2.2.1 s.2.2.2 = tg∧rest s.2.2.1 < s.2.1∧s.2.2.2.length + rest s.2.2.1≤1048578∧a0.length≤s.2.2.2.length∧(s.2.2.2.length = a0.length->s.2.2.2 = a0)) (q1z g1 g2 x kd a0) (fun s=>rest s.2.2.1) ?_ ?_
 ·refine qb1 (b0,rest c0 + 1,c0,a0) [0,1,2,3,4,5,6,7] ⟨hg,hr,htg,Nat.lt_succ_self _,hl,Nat.le_refl _,fun _=>rfl⟩ rfl (by simp) ?_ ?_ ?_
  all_goals simp only [q1z,if_true]
  all_goals (refine ev_ ?_;(try with_reducible exact ti_))
  all_goals first | exact q7 _ _ | exact ⟨rfl,rfl⟩ | rfl | (rw [q7,qbs];exact ⟨rfl,rfl⟩)
 ·rintro ⟨fl,fu,d,acc⟩ ⟨i1,i2,i3,i4,i5,i6,i7⟩
  simp only at i6 i7
  simp only at i1 i2 i3 i4 i5
  obtain ⟨fu,rfl⟩:∃ k,fu = k + 1:=⟨fu - 1,by omega⟩
  rw [rowF] at i3
  have hcap:qfe (acc.length + 1) 64:=capN (by omega)
  have hmore:=h2 fl d i1 i2
  have g1:=(hm fl d).1 i1
  have r1:=(hm fl d).2.1
  have hone:=h1 (more fl d).1 (more fl d).2.1 g1 (by omega)
  have g2:=(ho.m (more fl d).2.1).1 g1
  have r2:=(ho.m (more fl d).2.1).2.1
  have hlt:=ho.l (more fl d).2.1
  unfold q1z
  generalize more fl d = M at *
  obtain ⟨fl',d',ans⟩:=M
  simp only at hmore g1 r1 hone g2 r2 hlt i3
  generalize one d' = r at *
  obtain ⟨e,y,ok⟩:=r
  simp only at hone g2 r2 hlt i3
  have hneA:¬ acc.length + 1 = a0.length:=by omega
  have hlen:(acc ++ [y]).length = acc.length + 1:=by simp
  by_cases h0:acc = a0
  ·have h0l:acc.length = a0.length:=by rw [h0]
   simp only [if_pos h0l]
   cases ans with
   | false =>
     rw [if_neg (by simp)] at i3
     subst i3
     obtain rfl:=hk1 h0
     repeat' (first | refine vs_ ?_ | ((first | refine vr_ ?_ | refine qiy hmore ?_ | (refine cs_ ?_ ?_<;>intro hc) | refine cj_ ?_ | fail)<;>(try refine ev_ ?_)) | with_reducible exact ti_)
     all_goals exact ⟨fun _=>by first | trivial | exact ⟨rfl,rfl⟩,fun g=>absurd h0 g⟩
   | true =>
     rw [if_pos rfl] at i3
     cases ok with
     | false =>
       rw [if_neg (by simp)] at i3
       subst i3
       obtain rfl:=hk1 h0
       repeat' (first | refine vs_ ?_ | ((first | refine vr_ ?_ | refine qiy hmore ?_ | refine qqq hone ?_ | (refine cs_ ?_ ?_<;>intro hc) | refine cj_ ?_ | fail)<;>(try refine ev_ ?_)) | with_reducible exact ti_)
       all_goals exact ⟨fun _=>by first | trivial | exact ⟨rfl,rfl⟩,fun g=>absurd h0 g⟩
     | true =>
       have hlt:=hlt rfl
       rw [if_pos rfl] at i3
       subst h0
       repeat' (first | refine vs_ ?_ | ((first | refine vr_ ?_ | refine qiy hmore ?_ | refine qqq hone ?_ | (refine cs_ ?_ ?_<;>intro hc) | refine cj_ ?_ | fail)<;>(try refine ev_ ?_)) | with_reducible exact ti_)
       refine qb1 (fl',fu,e,acc ++ [y]) [0,1,2,3,4,5,6,7,9] ⟨⟨g2,by simp only;omega,i3,by simp only;omega,by simp only [hlen];omega,by simp only [hlen];omega,fun h=>by simp only [hlen] at h;omega⟩,by simp only;omega⟩ rfl (by simp) ?_ ?_ ?_
       all_goals simp only [q1z,hlen,if_neg hneA,← ql]
       all_goals (refine ev_ ?_;(try with_reducible exact ti_))
       all_goals first | (rw [ql];exact q7 _ _) | exact ⟨rfl,rfl⟩ | rfl | (rw [ql,q7,qbs];exact ⟨rfl,rfl⟩)
  ·have h0l:¬ acc.length = a0.length:=fun h=>h0 (i7 h)
   simp only [if_neg h0l]
   cases ans with
   | false =>
     rw [if_neg (by simp)] at i3
     subst i3
     obtain rfl:=hk2 h0
     repeat' (first | refine vs_ ?_ | ((first | refine vr_ ?_ | refine qiy hmore ?_ | (refine cs_ ?_ ?_<;>intro hc) | refine cj_ ?_ | fail)<;>(try refine ev_ ?_)) | with_reducible exact ti_)
     all_goals exact ⟨fun g=>absurd g h0,fun _=>by first | trivial | exact ⟨rfl,rfl⟩⟩
   | true =>
     rw [if_pos rfl] at i3
     cases ok with
     | false =>
       rw [if_neg (by simp)] at i3
       subst i3
       obtain rfl:=hk2 h0
       repeat' (first | refine vs_ ?_ | ((first | refine vr_ ?_ | refine qiy hmore ?_ | refine qqq hone ?_ | (refine cs_ ?_ ?_<;>intro hc) | refine cj_ ?_ | fail)<;>(try refine ev_ ?_)) | with_reducible exact ti_)
       all_goals exact ⟨fun g=>absurd g h0,fun _=>by first | trivial | exact ⟨rfl,rfl⟩⟩
     | true =>
       have hlt:=hlt rfl
       rw [if_pos rfl] at i3
       repeat' (first | refine vs_ ?_ | ((first | refine vr_ ?_ | refine qiy hmore ?_ | refine qqq hone ?_ | (refine cs_ ?_ ?_<;>intro hc) | refine cj_ ?_ | fail)<;>(try refine ev_ ?_)) | with_reducible exact ti_)
       refine qb1 (fl',fu,e,acc ++ [y]) [0,1,2,3,4,5,6,7,10] ⟨⟨g2,by simp only;omega,i3,by simp only;omega,by simp only [hlen];omega,by simp only [hlen];omega,fun h=>by simp only [hlen] at h;omega⟩,by simp only;omega⟩ rfl (by simp) ?_ ?_ ?_
       all_goals simp only [q1z,hlen,if_neg hneA,← ql]
       all_goals (refine ev_ ?_;(try with_reducible exact ti_))
       all_goals first | (rw [ql];exact q7 _ _) | exact ⟨rfl,rfl⟩ | rfl | (rw [ql,q7,qbs];exact ⟨rfl,rfl⟩)

set_option maxRecDepth 4000

theorem qp5 (σ:Nat->Nat) (i o:Nat):(Ent.blk [.ptr i o]).ren σ = .blk [.ptr (σ i) o]:=rfl
theorem qs5 (σ:Nat->Nat) (x:List UInt8):(Ent.blk [.str x]).ren σ = .blk [.str x]:=rfl
theorem qlg (σ:Nat->Nat) (b:Bool):(Ent.blk [.bool b]).ren σ = .blk [.bool b]:=rfl
theorem qce3 (σ:Nat->Nat) (n:Int):(Ent.blk [.int .i64 n]).ren σ = .blk [.int .i64 n]:=rfl
theorem qrw (σ:Nat->Nat) (l:List N):(Ent.app 5 (encs l)).ren σ = .app 5 (encs l):=by rw [Ent.ren,qbs]
theorem e_fn (σ:Nat->Nat) (f:FuncId) (i j k:Nat):(Ent.blk [.fn f [] [.ptr i 0,.ptr j 0,.ptr k 0]]).ren σ = .blk [.fn f [] [.ptr (σ i) 0,.ptr (σ j) 0,.ptr (σ k) 0]]:=rfl
theorem qbmd (c:K) (x:List UInt8):VCalls Tryz.prog 61 [curE c] [.ptr 0 0,.str x] fun H' o=>H' = [curE c,.blk [.ptr 0 0],.blk [.str x],.blk [.bool false]]∧o = .val (.fn 104 [] [.ptr 3 0,.ptr 1 0,.ptr 2 0]):=by
 refine qdx c0fc 4 (by simp) (by simp) ?_
 repeat' (first | refine vs_ ?_ | ((first | refine vr_ ?_ | (refine cs_ ?_ ?_<;>intro hc) | refine cj_ ?_ | fail)<;>(try refine ev_ ?_)) | with_reducible exact ti_)
 all_goals exact ⟨rfl,rfl⟩
theorem qe4 {c:K} {x:List UInt8} {L:List Ent} {Q:List Ent->VO->Prop} (hq:Q (curE c :: (L ++ [.blk [.ptr 0 0],.blk [.str x],.blk [.bool false]])) (.val (.fn 104 [] [.ptr (L.length + 3) 0,.ptr (L.length + 1) 0,.ptr (L.length + 2) 0]))) :
 VApp Tryz.prog (curE c :: L) (.fn 61 [] []) [.ptr 0 0,.str x] Q :=
 qb3 (first:=[]) (caps:=[]) (by
  simp only [List.nil_append,List.append_nil]
  refine qcp (H0:=[curE c]) (args0:=[.ptr 0 0,.str x]) [0] (qbmd c x) (by simp) ?_ rfl rfl ?_
  ·(refine ev_ ?_;(try with_reducible exact ti_))
   omega
  rintro H1 o ⟨rfl,rfl⟩
  have h3:∀ k,L.length + 1 + k = L.length + (k + 1):=fun k=>by omega
  simpa [qf3,qbw,sg',qp5,qs5,qlg,AV.ren,AV.rens,VO.ren,qc4,Nat.add_assoc] using hq)
theorem qz7 (x:List UInt8) (b:Bool) (c:K) (hg:c.good):VCalls Tryz.prog 104 [curE c,.blk [.ptr 0 0],.blk [.str x],.blk [.bool b]] [.ptr 3 0,.ptr 1 0,.ptr 2 0] fun H' o=>H' = [curE (qbh x b c).2.1,.blk [.ptr 0 0],.blk [.str x],.blk [.bool (qbh x b c).1]]∧o = .val (.bool (qbh x b c).2.2):=by
 refine qq c0fd 4 (by simp) (by simp) ?_
 unfold qbh
 cases b with
 | false =>
   repeat' (first | refine vs_ ?_ | ((first | refine vr_ ?_ | (refine cs_ ?_ ?_<;>intro hc) | refine cj_ ?_ | fail)<;>(try refine ev_ ?_)) | with_reducible exact ti_)
   all_goals exact ⟨rfl,rfl⟩
 | true =>
   repeat' (first | refine vs_ ?_ | ((first | refine vr_ ?_ | refine qef hg.ok ?_ | (refine cs_ ?_ ?_<;>intro hc) | refine cj_ ?_ | fail)<;>(try refine ev_ ?_)) | with_reducible exact ti_)
   all_goals exact ⟨rfl,rfl⟩
theorem qi6 {x:List UInt8} {b:Bool} {c:K} {B:Ent} {L:List Ent} {Q:List Ent->VO->Prop} (hg:c.good) (hq:Q (curE (qbh x b c).2.1 :: B :: .blk [.ptr 0 0] :: .blk [.str x] :: .blk [.bool (qbh x b c).1] :: L) (.val (.bool (qbh x b c).2.2))) :
 VApp Tryz.prog (curE c :: B :: .blk [.ptr 0 0] :: .blk [.str x] :: .blk [.bool b] :: L) (.fn 104 [] [.ptr 4 0,.ptr 2 0,.ptr 3 0]) [] Q :=
 qb3 (first:=[]) (caps:=[.ptr 4 0,.ptr 2 0,.ptr 3 0]) (by
  simp only [List.nil_append]
  refine qcp (H0:=[curE c,.blk [.ptr 0 0],.blk [.str x],.blk [.bool b]]) (args0:=[.ptr 3 0,.ptr 1 0,.ptr 2 0]) [0,2,3,4] (qz7 x b c hg) (by simp) ?_ rfl rfl ?_
  ·(refine ev_ ?_;(try with_reducible exact ti_))
   omega
  rintro H1 o ⟨rfl,rfl⟩
  simpa [qf3,qbw,sg',qp5,qs5,qlg,AV.ren,AV.rens,VO.ren,qc4] using hq)
theorem qs0 (c:K) (hg:c.good):qb7 Tryz.prog 165 (curE c) (curE (qd8 c).1) [.ptr 0 0] (resP (qd8 c).2):=qjd (qbv _) (qyj (rest c + 2)) c hg (by omega)
theorem qy4 (c:K) (hg:c.good):qb7 Tryz.prog 108 (curE c) (curE (qgj c).1) [.ptr 0 0] (resP (qgj c).2):=qvt (qcju (rest c + 2)) c hg (by omega)
theorem qcbg (c:K):qb7 Tryz.prog 201 (curE c) (curE c) [.ptr 0 0] (.bool (begT c)):=by
 refine qq c0fe 1 (by simp) (by simp) ?_
 repeat' (first | refine vs_ ?_ | ((first | refine vr_ ?_ | refine qb2 ?_ | refine a_Is ?_ | (refine cs_ ?_ ?_<;>intro hc) | refine cj_ ?_ | fail)<;>(try refine ev_ ?_)) | with_reducible exact ti_)
 all_goals (unfold begT;simp_all)
theorem qce2 {c:K} {L:List Ent} {Q:List Ent->VO->Prop} (hq:Q (curE c :: L) (.val (.bool (begT c)))):VApp Tryz.prog (curE c :: L) (.fn 201 [] []) [.ptr 0 0] Q:=qb4 (qcbg c) (q9 _ _) (q9 _ _) rfl rfl fun _=>hq
theorem qb1c (c:K) (hg:c.good):VCalls Tryz.prog 199 [curE c,.blk [.ptr 0 0]] [.ptr 1 0] fun H' o=>H' = frA false (qb5 c).1∧o = .val (resB (qb5 c).2):=by
 refine qq c0ff 2 (by simp) (by simp) ?_
 unfold qb5 ofO frA
 repeat' (first | refine vs_ ?_ | ((first | refine vr_ ?_ | refine qcs (qs0 c hg) rfl ?_ | (refine cs_ ?_ ?_<;>intro hc) | refine cj_ ?_ | fail)<;>(try refine ev_ ?_)) | with_reducible exact ti_)
 all_goals exact ⟨rfl,rfl⟩
theorem qbsu (c:K):VCalls Tryz.prog 200 [curE c,.blk [.ptr 0 0]] [.ptr 1 0] fun H' o=>H' = frA false c∧o = .val (.bool (begT c)):=by
 refine qq c0fg 2 (by simp) (by simp) ?_
 unfold frA
 repeat' (first | refine vs_ ?_ | ((first | refine vr_ ?_ | refine qce2 ?_ | (refine cs_ ?_ ?_<;>intro hc) | refine cj_ ?_ | fail)<;>(try refine ev_ ?_)) | with_reducible exact ti_)
 all_goals exact ⟨rfl,rfl⟩
theorem qbhm (c:K) (hg:c.good):VCalls Tryz.prog 164 [curE c,.blk [.ptr 0 0]] [.ptr 1 0] fun H' o=>H' = frA false (qb5 c).1∧o = .val (resB (qb5 c).2):=by
 refine qq c0fh 2 (by simp) (by simp) ?_
 unfold qb5 ofO frA
 repeat' (first | refine vs_ ?_ | ((first | refine vr_ ?_ | refine qcs (qs0 c hg) rfl ?_ | (refine cs_ ?_ ?_<;>intro hc) | refine cj_ ?_ | fail)<;>(try refine ev_ ?_)) | with_reducible exact ti_)
 all_goals exact ⟨rfl,rfl⟩
theorem qbiy (c:K):VCalls Tryz.prog 166 [curE c,.blk [.ptr 0 0]] [.ptr 1 0] fun H' o=>H' = frA false c∧o = .val (.bool (qdj c)):=by
 refine qq c0fi 2 (by simp) (by simp) ?_
 unfold qdj frA
 repeat' (first | refine vs_ ?_ | ((first | refine vr_ ?_ | refine qb2 ?_ | (refine cs_ ?_ ?_<;>intro hc) | refine cj_ ?_ | fail)<;>(try refine ev_ ?_)) | with_reducible exact ti_)
 all_goals exact ⟨rfl,rfl⟩
theorem qbmn (c:K) (hg:c.good):RowA qb5 (qdl begT) 199 200 false c:=qy8 goes_atom (monA _) (fun b c g _=>qb1c c g) (fun b c g _=>qbsu c) false c hg (Nat.le_refl _)
theorem qbdf (c:K) (hg:c.good):RowA qb5 (qdl qdj) 164 166 false c:=qy8 goes_atom (monA _) (fun b c g _=>qbhm c g) (fun b c g _=>qbiy c) false c hg (Nat.le_refl _)
section
variable {one:K->R3} {more:MF} {g1 g2:FuncId} {b:Bool} {c:K}
theorem qyp (h:RowA one more g1 g2 b c) (h0:(rowS one more b c []).2.2.1 = []) {L:List Ent} {Q:List Ent->VO->Prop} (hq:Q (curE (rowS one more b c []).2.1 :: .blk [.ptr 0 0] :: L) (.val (.tup [.nils,.bool (rowS one more b c []).2.2.2]))) :
 VApp Tryz.prog (curE c :: .blk [.ptr 0 0] :: L) (.fn 62 [] []) [.nils,.fn g1 [] [.ptr 1 0],.fn g2 [] [.ptr 1 0]] Q :=
 qb3 (first:=[]) (caps:=[]) (by
  simp only [List.nil_append,List.append_nil]
  refine qde (H0:=[curE c,.blk [.ptr 0 0]]) (L:=L) h (ql1 c) rfl ?_
  rintro H1 o ⟨rfl,rfl⟩
  rw [h0]
  exact ⟨rfl,ql1 _,rfl,hq⟩)
theorem q1q (h:RowA one more g1 g2 b c) (h0:(rowS one more b c []).2.2.1≠[]) {L:List Ent} {Q:List Ent->VO->Prop} (hq:Q (curE (rowS one more b c []).2.1 :: .blk [.ptr 0 0] :: (L ++ [.app 5 (encs (rowS one more b c []).2.2.1)])) (.val (.tup [.row (L.length + 2) (rowS one more b c []).2.2.1.length,.bool (rowS one more b c []).2.2.2]))) :
 VApp Tryz.prog (curE c :: .blk [.ptr 0 0] :: L) (.fn 62 [] []) [.nils,.fn g1 [] [.ptr 1 0],.fn g2 [] [.ptr 1 0]] Q :=
 qb3 (first:=[]) (caps:=[]) (by
  simp only [List.nil_append,List.append_nil]
  refine qcp (H0:=[curE c,.blk [.ptr 0 0]]) (args0:=[.nils,.fn g1 [] [.ptr 1 0],.fn g2 [] [.ptr 1 0]]) [0,1] h (by simp) ?_ rfl rfl ?_
  ·(refine ev_ ?_;(try with_reducible exact ti_))
   omega
  rintro H1 o ⟨rfl,rfl⟩
  rw [qbu (qbf h0),qbt (qbf h0),qbc]
  simpa [qf3,qbw,sg',qp5,qrw,AV.ren,AV.rens,VO.ren,qc4] using hq)
end
theorem qx2 (t:T) (l:List N):AV.agg [.int .i64 34,.int .i64 t.pos,.int .i64 0,.str t.text,.sl 5 (encs l)] = enc (conN t l):=by simp only [conN,enc]
theorem qv7 (t:T):AV.agg [.int .i64 34,.int .i64 t.pos,.int .i64 0,.str t.text,.sl 5 []] = enc (conN t []):=qx2 t []
theorem qcj2 (c:K) (hg:c.good):qb7 Tryz.prog 168 (curE c) (curE (conK c).1) [.ptr 0 0] (resB (conK c).2):=by
 have g1:(kindK c 2).1.good:=(qbp c 2).1 hg
 have hR:=qbmn (kindK c 2).1 g1
 have h0:=@qyp _ _ _ _ _ _ hR
 have h1:=@q1q _ _ _ _ _ _ hR
 clear hR
 refine qq c0fj 1 (by simp) (by simp) ?_
 unfold conK
 generalize rowS qb5 (qdl begT) false (kindK c 2).1 [] = r at *
 by_cases hk:(kindK c 2).2 = true
 ·rw [if_pos hk]
  by_cases hl:r.2.2.1 = []
  ·repeat' (first | refine vs_ ?_ | ((first | refine vrr_ ?_ | fail)<;>(try simp only [hk,go_sem,↓reduceIte])) | ((first | (refine cs_ ?_ ?_<;>intro hc) | refine cj_ ?_ | fail | refine qdb hg.ok ?_ | refine h0 hl ?_)<;>(try refine ev_ ?_)) | with_reducible exact ti_)
   all_goals first | (rw [hl,qv7];done) | (rw [hl,qv7];rfl) | (rw [hl,qv7];exact ⟨rfl,rfl⟩)
  ·repeat' (first | refine vs_ ?_ | ((first | refine vrr_ ?_ | fail)<;>(try simp only [hk,go_sem,↓reduceIte])) | ((first | (refine cs_ ?_ ?_<;>intro hc) | refine cj_ ?_ | fail | refine qdb hg.ok ?_ | refine h1 hl ?_)<;>(try refine ev_ ?_)) | with_reducible exact ti_)
   all_goals first | (rw [qx2];done) | (rw [qx2];rfl) | (rw [qx2];exact ⟨rfl,rfl⟩)
 ·rw [if_neg hk]
  repeat' (first | refine vs_ ?_ | ((first | refine vr_ ?_ | fail)<;>(try simp only [hk,go_sem,↓reduceIte])) | ((first | (refine cs_ ?_ ?_<;>intro hc) | refine cj_ ?_ | fail | refine qdb hg.ok ?_)<;>(try refine ev_ ?_)) | with_reducible exact ti_)
  all_goals first | (rw [qed];done) | (rw [qed];rfl) | (rw [qed];exact ⟨rfl,rfl⟩)
set_option maxRecDepth 4000

theorem qck2 {c:K} {L:List Ent} {Q:List Ent->VO->Prop} (hg:c.good) (hq:Q (curE (conK c).1 :: L) (.val (resB (conK c).2))):VApp Tryz.prog (curE c :: L) (.fn 168 [] []) [.ptr 0 0] Q:=ql7 (qcj2 c hg) rfl hq
theorem q62 (x:List UInt8) (b:Bool) (c:K) (hg:c.good):VCalls Tryz.prog 167 [curE c,.blk [.ptr 0 0],.blk [.ptr 0 0],.blk [.str x],.blk [.bool b]] [.ptr 1 0] fun H' o=>H' = frD x b (conK c).1∧o = .val (resB (conK c).2):=by
 refine qq c0fa 5 (by simp) (by simp) ?_
 unfold frD
 repeat' (first | refine vs_ ?_ | ((first | refine vr_ ?_ | refine qck2 hg ?_ | (refine cs_ ?_ ?_<;>intro hc) | refine cj_ ?_ | fail)<;>(try refine ev_ ?_)) | with_reducible exact ti_)
 all_goals exact ⟨rfl,rfl⟩
theorem qvl (x:List UInt8) (b:Bool) (c:K) (hg:c.good):VCalls Tryz.prog 104 [curE c,.blk [.ptr 0 0],.blk [.ptr 0 0],.blk [.str x],.blk [.bool b]] [.ptr 4 0,.ptr 2 0,.ptr 3 0] fun H' o=>H' = frD x (qbh x b c).1 (qbh x b c).2.1∧o = .val (.bool (qbh x b c).2.2):=by
 refine qcp (H0:=[curE c,.blk [.ptr 0 0],.blk [.str x],.blk [.bool b]]) (args0:=[.ptr 3 0,.ptr 1 0,.ptr 2 0]) [0,2,3,4] (qz7 x b c hg) (by simp) ?_ rfl rfl ?_
 ·(refine ev_ ?_;(try with_reducible exact ti_))
 rintro H1 o ⟨rfl,rfl⟩
 simp [frD,qf3,qbw,sg',qp5,qs5,qlg,AV.ren,AV.rens,VO.ren,qc4]
theorem qbcj (c:K) (hg:c.good):RowD conK (qbh [124]) 167 104 [124] false c :=
 qbcw goes_con (monF _) (fun b c g _=>q62 _ b c g) (fun b c g _=>qvl _ b c g) false c hg (Nat.le_refl _)
theorem qbd8 (c:K) (a0:List N) (hg:c.good) (hl:a0.length + rest c≤1048578):RovD conK (qbh [124]) 167 104 [124] false c a0 :=
 qbei goes_con (monF _) (fun b c g _=>q62 _ b c g) (fun b c g _=>qvl _ b c g) false c a0 hg (Nat.le_refl _) hl
section
variable {one:K->R3} {more:MF} {g:FuncId} {x:List UInt8} {b:Bool} {c:K} {e2 e3 e4:Ent} {Q:List Ent->VO->Prop}
theorem qbbl (h:RowD one more g 104 x b c) (h0:(rowS one more b c []).2.2.1 = []) (hq:Q [curE (rowS one more b c []).2.1,.blk [.ptr 0 0],e2,e3,e4,.blk [.ptr 0 0],.blk [.str x],.blk [.bool (rowS one more b c []).1]] (.val (.tup [.nils,.bool (rowS one more b c []).2.2.2]))) :
 VApp Tryz.prog [curE c,.blk [.ptr 0 0],e2,e3,e4,.blk [.ptr 0 0],.blk [.str x],.blk [.bool b]] (.fn 62 [] []) [.nils,.fn g [] [.ptr 1 0],.fn 104 [] [.ptr 7 0,.ptr 5 0,.ptr 6 0]] Q :=
 qb3 (first:=[]) (caps:=[]) (by
  simp only [List.nil_append,List.append_nil]
  refine qcp (H0:=[curE c,.blk [.ptr 0 0],.blk [.ptr 0 0],.blk [.str x],.blk [.bool b]]) (args0:=[.nils,.fn g [] [.ptr 1 0],.fn 104 [] [.ptr 4 0,.ptr 2 0,.ptr 3 0]]) [0,1,5,6,7] h (by simp) ?_ rfl rfl ?_
  ·(refine ev_ ?_;(try with_reducible exact ti_))
  rintro H1 o ⟨rfl,rfl⟩
  rw [h0]
  simpa [encs,qbo,qbl,qf3,qbw,sg',qp5,qs5,qlg,AV.ren,AV.rens,VO.ren,qc4] using hq)
theorem qbcu (h:RowD one more g 104 x b c) (h0:(rowS one more b c []).2.2.1≠[]) (hq:Q [curE (rowS one more b c []).2.1,.blk [.ptr 0 0],e2,e3,e4,.blk [.ptr 0 0],.blk [.str x],.blk [.bool (rowS one more b c []).1],.app 5 (encs (rowS one more b c []).2.2.1)] (.val (.tup [.row 8 (rowS one more b c []).2.2.1.length,.bool (rowS one more b c []).2.2.2]))) :
 VApp Tryz.prog [curE c,.blk [.ptr 0 0],e2,e3,e4,.blk [.ptr 0 0],.blk [.str x],.blk [.bool b]] (.fn 62 [] []) [.nils,.fn g [] [.ptr 1 0],.fn 104 [] [.ptr 7 0,.ptr 5 0,.ptr 6 0]] Q :=
 qb3 (first:=[]) (caps:=[]) (by
  simp only [List.nil_append,List.append_nil]
  refine qcp (H0:=[curE c,.blk [.ptr 0 0],.blk [.ptr 0 0],.blk [.str x],.blk [.bool b]]) (args0:=[.nils,.fn g [] [.ptr 1 0],.fn 104 [] [.ptr 4 0,.ptr 2 0,.ptr 3 0]]) [0,1,5,6,7] h (by simp) ?_ rfl rfl ?_
  ·(refine ev_ ?_;(try with_reducible exact ti_))
  rintro H1 o ⟨rfl,rfl⟩
  rw [qbu (qbf h0),qbt (qbf h0),qbc]
  simpa [qf3,qbw,sg',qp5,qs5,qlg,qrw,AV.ren,AV.rens,VO.ren,qc4] using hq)
variable {a0:List N}
theorem qbe2 (h:RovD one more g 104 x b c a0) (h0:(rowS one more b c a0).2.2.1 = a0) (hq:Q [curE (rowS one more b c a0).2.1,.blk [.ptr 0 0],e2,e3,e4,.app 5 (encs a0),.blk [.ptr 0 0],.blk [.str x],.blk [.bool (rowS one more b c a0).1]] (.val (.tup [.row 5 a0.length,.bool (rowS one more b c a0).2.2.2]))) :
 VApp Tryz.prog [curE c,.blk [.ptr 0 0],e2,e3,e4,.app 5 (encs a0),.blk [.ptr 0 0],.blk [.str x],.blk [.bool b]] (.fn 62 [] []) [.row 5 a0.length,.fn g [] [.ptr 1 0],.fn 104 [] [.ptr 8 0,.ptr 6 0,.ptr 7 0]] Q :=
 qb3 (first:=[]) (caps:=[]) (by
  simp only [List.nil_append,List.append_nil]
  refine qcp (H0:=[curE c,.blk [.ptr 0 0],.blk [.ptr 0 0],.blk [.str x],.blk [.bool b],.app 5 (encs a0)]) (args0:=[.row 5 a0.length,.fn g [] [.ptr 1 0],.fn 104 [] [.ptr 4 0,.ptr 2 0,.ptr 3 0]]) [0,1,6,7,8,5] h (by simp) ?_ rfl rfl ?_
  ·(refine ev_ ?_;(try with_reducible exact ti_))
   all_goals (rw [qbs,q7];exact ⟨rfl,rfl⟩)
  intro H1 o hh
  obtain ⟨rfl,rfl⟩:=hh.1 h0
  simpa [qf3,qbw,sg',qp5,qs5,qlg,qrw,AV.ren,AV.rens,VO.ren,qc4] using hq)
theorem qbgh (h:RovD one more g 104 x b c a0) (h0:(rowS one more b c a0).2.2.1≠a0) (hq:Q [curE (rowS one more b c a0).2.1,.blk [.ptr 0 0],e2,e3,e4,.dead,.blk [.ptr 0 0],.blk [.str x],.blk [.bool (rowS one more b c a0).1],.app 5 (encs (rowS one more b c a0).2.2.1)] (.val (.tup [.row 9 (rowS one more b c a0).2.2.1.length,.bool (rowS one more b c a0).2.2.2]))) :
 VApp Tryz.prog [curE c,.blk [.ptr 0 0],e2,e3,e4,.app 5 (encs a0),.blk [.ptr 0 0],.blk [.str x],.blk [.bool b]] (.fn 62 [] []) [.row 5 a0.length,.fn g [] [.ptr 1 0],.fn 104 [] [.ptr 8 0,.ptr 6 0,.ptr 7 0]] Q :=
 qb3 (first:=[]) (caps:=[]) (by
  simp only [List.nil_append,List.append_nil]
  refine qcp (H0:=[curE c,.blk [.ptr 0 0],.blk [.ptr 0 0],.blk [.str x],.blk [.bool b],.app 5 (encs a0)]) (args0:=[.row 5 a0.length,.fn g [] [.ptr 1 0],.fn 104 [] [.ptr 4 0,.ptr 2 0,.ptr 3 0]]) [0,1,6,7,8,5] h (by simp) ?_ rfl rfl ?_
  ·(refine ev_ ?_;(try with_reducible exact ti_))
   all_goals (rw [qbs,q7];exact ⟨rfl,rfl⟩)
  intro H1 o hh
  obtain ⟨rfl,rfl⟩:=hh.2 h0
  have hd:∀ σ:Nat->Nat,Ent.dead.ren σ = .dead:=fun σ=>rfl
  simpa [qf3,qbw,sg',qp5,qs5,qlg,qrw,hd,AV.ren,AV.rens,VO.ren,qc4] using hq)
end
theorem qqo (p:Int) (t:T) (v l:List N):AV.agg [.int .i64 33,.int .i64 p,.int .i64 v.length,.str t.text,.sl 5 (encs l)] = enc (qp2 p t v l):=by simp only [qp2,enc]
theorem qbbh (p:Int) (t:T) (l:List N):AV.agg [.int .i64 33,.int .i64 p,.int .i64 0,.str t.text,.sl 5 (encs l)] = enc (qp2 p t [] l):=qqo p t [] l
theorem q8r (p:Int) (t:T):AV.agg [.int .i64 33,.int .i64 p,.int .i64 0,.str t.text,.sl 5 []] = enc (qp2 p t [] []):=qqo p t [] []
theorem qb09 (p:Int) (c:K) (hg:c.good):qb7 Tryz.prog 106 (curE c) (curE (qi0 p c).1) [.ptr 0 0,posZ p] (resB (qi0 p c).2):=by
 have g1:(kindK c 2).1.good:=(qbp c 2).1 hg
 have hR:=qbdf (kindK c 2).1 g1
 have h0:=@qyp _ _ _ _ _ _ hR
 have h1:=@q1q _ _ _ _ _ _ hR
 have g2:=(qf5 goes_atom (monA qdj) false (kindK c 2).1 []).1 g1
 have hlen:=qbjv goes_atom (monA qdj) false (kindK c 2).1 []
 have hle:=(qf5 goes_atom (monA qdj) false (kindK c 2).1 []).2.1
 have h9:=g1.rest
 clear hR
 refine qq c0fb 1 (by simp) (by simp [posZ]) ?_
 unfold qi0 qy2 posZ
 by_cases hk:(kindK c 2).2 = true
 ·rw [if_pos hk]
  generalize rowS qb5 (qdl qdj) false (kindK c 2).1 [] = r at *
  obtain ⟨fl,d,v,ok⟩:=r
  simp only at h0 h1 g2 hlen hle ⊢
  simp only [List.length_nil] at hlen
  have hle2:=(qe d [61]).2.1
  have hcap:qfe (v.length + 1) 64:=capN (by unfold rest at hlen;omega)
  have hvl:v.length≤maxLen:=by unfold maxLen;unfold rest at hlen;omega
  have g3:(qh d [61]).1.good:=(qe _ _).1 g2
  have hR:=qbcj (qh d [61]).1 g3
  have hRv:=qbd8 (qh d [61]).1 v g3 (by unfold rest at *;omega)
  unfold qxw
  by_cases hw:(qh d [61]).2 = true
  ·rw [if_pos hw]
   by_cases hl:v = []
   ·subst hl
    clear hRv
    have i0:=fun e2 e3 e4 Q=>@qbbl conK (qbh [124]) 167 [124] false (qh d [61]).1 e2 e3 e4 Q hR
    have i1:=fun e2 e3 e4 Q=>@qbcu conK (qbh [124]) 167 [124] false (qh d [61]).1 e2 e3 e4 Q hR
    clear hR
    generalize rowS conK (qbh [124]) false (qh d [61]).1 [] = r2 at *
    by_cases hq:r2.2.2.1 = []
    ·repeat' (first | refine vs_ ?_ | ((first | refine vrr_ ?_ | fail)<;>(try simp only [hk,hw,go_sem,↓reduceIte])) | ((first | (refine cs_ ?_ ?_<;>intro hc) | refine cj_ ?_ | fail | refine qdb hg.ok ?_ | refine h0 rfl ?_ | refine qcc g2.ok ?_ | refine qe4 ?_ | refine i0 _ _ _ _ hq ?_)<;>(try refine ev_ ?_)) | with_reducible exact ti_)
     all_goals (try rw [hq,q8r])
     all_goals (try exact ⟨rfl,rfl⟩)
    ·repeat' (first | refine vs_ ?_ | ((first | refine vrr_ ?_ | fail)<;>(try simp only [hk,hw,go_sem,↓reduceIte])) | ((first | (refine cs_ ?_ ?_<;>intro hc) | refine cj_ ?_ | fail | refine qdb hg.ok ?_ | refine h0 rfl ?_ | refine qcc g2.ok ?_ | refine qe4 ?_ | refine i1 _ _ _ _ hq ?_)<;>(try refine ev_ ?_)) | with_reducible exact ti_)
     all_goals (try rw [qbbh])
     all_goals (try exact ⟨rfl,rfl⟩)
   ·clear hR
    have i0:=fun e2 e3 e4 Q=>@qbe2 conK (qbh [124]) 167 [124] false (qh d [61]).1 e2 e3 e4 Q v hRv
    have i1:=fun e2 e3 e4 Q=>@qbgh conK (qbh [124]) 167 [124] false (qh d [61]).1 e2 e3 e4 Q v hRv
    clear hRv
    generalize rowS conK (qbh [124]) false (qh d [61]).1 v = r2 at *
    by_cases hq:r2.2.2.1 = v
    ·repeat' (first | refine vs_ ?_ | ((first | refine vrr_ ?_ | fail)<;>(try simp only [hk,hw,go_sem,↓reduceIte])) | ((first | (refine cs_ ?_ ?_<;>intro hc) | refine cj_ ?_ | fail | refine qdb hg.ok ?_ | refine h1 hl ?_ | refine qcc g2.ok ?_ | refine qe4 ?_ | refine i0 _ _ _ _ hq ?_)<;>(try refine ev_ ?_)) | with_reducible exact ti_)
     all_goals (try rw [hq,qqo])
     all_goals (try exact ⟨rfl,rfl⟩)
    ·repeat' (first | refine vs_ ?_ | ((first | refine vrr_ ?_ | fail)<;>(try simp only [hk,hw,go_sem,↓reduceIte])) | ((first | (refine cs_ ?_ ?_<;>intro hc) | refine cj_ ?_ | fail | refine qdb hg.ok ?_ | refine h1 hl ?_ | refine qcc g2.ok ?_ | refine qe4 ?_ | refine i1 _ _ _ _ hq ?_)<;>(try refine ev_ ?_)) | with_reducible exact ti_)
     all_goals (try rw [qqo])
     all_goals (try exact ⟨rfl,rfl⟩)
  ·rw [if_neg hw]
   by_cases hl:v = []
   ·repeat' (first | refine vs_ ?_ | ((first | refine vrr_ ?_ | fail)<;>(try simp only [hk,hw,go_sem,↓reduceIte])) | ((first | (refine cs_ ?_ ?_<;>intro hc) | refine cj_ ?_ | fail | refine qdb hg.ok ?_ | refine h0 hl ?_ | refine qcc g2.ok ?_)<;>(try refine ev_ ?_)) | with_reducible exact ti_)
    all_goals (try rw [qjq])
    all_goals (try exact ⟨rfl,rfl⟩)
   ·repeat' (first | refine vs_ ?_ | ((first | refine vrr_ ?_ | fail)<;>(try simp only [hk,hw,go_sem,↓reduceIte])) | ((first | (refine cs_ ?_ ?_<;>intro hc) | refine cj_ ?_ | fail | refine qdb hg.ok ?_ | refine h1 hl ?_ | refine qcc g2.ok ?_)<;>(try refine ev_ ?_)) | with_reducible exact ti_)
    all_goals (try rw [qjq])
    all_goals (try exact ⟨rfl,rfl⟩)
 ·rw [if_neg hk]
  repeat' (first | refine vs_ ?_ | ((first | refine vr_ ?_ | fail)<;>(try simp only [hk,go_sem,↓reduceIte])) | ((first | (refine cs_ ?_ ?_<;>intro hc) | refine cj_ ?_ | fail | refine qdb hg.ok ?_)<;>(try refine ev_ ?_)) | with_reducible exact ti_)
  all_goals (try rw [qjq])
  all_goals (try exact ⟨rfl,rfl⟩)
set_option maxRecDepth 4000

theorem qbgg (kd:Int) (c:K) (hg:c.good):qb7 Tryz.prog 203 (curE c) (curE (qv kd c).1) [.ptr 0 0,.int .i64 kd] (resB (qv kd c).2):=by
 have hb:=qy4 c hg
 refine qq c0ew 1 (by simp) (by simp) ?_
 unfold qv ofO
 generalize qgj c = r at *
 obtain ⟨d,o⟩:=r
 cases o with
 | none =>
   repeat' (first | refine vs_ ?_ | ((first | refine vr_ ?_ | fail)<;>(try simp (disch:=first | omega | (simp only [List.length_set,List.length_append,List.length_cons,List.length_nil];done) | (simp only [List.length_set,List.length_append,List.length_cons,List.length_nil];omega)) only [Option.isSome_none,Option.getD_none,go_sem,↓reduceIte])) | ((first | (refine cs_ ?_ ?_<;>intro hc) | refine cj_ ?_ | fail | refine qcs hb rfl ?_)<;>(try refine ev_ ?_)) | with_reducible exact ti_)
   all_goals first | (rw [qed];done) | (rw [qed];rfl) | (rw [qed];exact ⟨rfl,rfl⟩) | rfl | (simp;done)
 | some n =>
   obtain ⟨k,p,m,t,l⟩:=n
   by_cases hk:k = kd
   ·rw [if_neg (by simp [N.kind,hk])]
    repeat' (first | refine vs_ ?_ | ((first | refine vr_ ?_ | fail)<;>(try simp (disch:=first | omega | (simp only [List.length_set,List.length_append,List.length_cons,List.length_nil];done) | (simp only [List.length_set,List.length_append,List.length_cons,List.length_nil];omega)) only [Option.isSome_some,Option.getD_some,go_sem,↓reduceIte])) | ((first | (refine cs_ ?_ ?_<;>intro hc) | refine cj_ ?_ | fail | refine qcs hb rfl ?_ | refine qgk ?_)<;>(try refine ev_ ?_)) | with_reducible exact ti_)
    all_goals first | (exfalso;simp_all [N.kind];done) | exact ⟨rfl,rfl⟩
   ·rw [if_pos (by simp [N.kind,hk])]
    repeat' (first | refine vs_ ?_ | ((first | refine vr_ ?_ | fail)<;>(try simp (disch:=first | omega | (simp only [List.length_set,List.length_append,List.length_cons,List.length_nil];done) | (simp only [List.length_set,List.length_append,List.length_cons,List.length_nil];omega)) only [Option.isSome_some,Option.getD_some,go_sem,↓reduceIte])) | ((first | (refine cs_ ?_ ?_<;>intro hc) | refine cj_ ?_ | fail | refine qcs hb rfl ?_ | refine qgk ?_)<;>(try refine ev_ ?_)) | with_reducible exact ti_)
    all_goals first | (exfalso;simp_all [N.kind];done) | exact ⟨rfl,rfl⟩
theorem qboj {kd:Int} {c:K} {L:List Ent} {Q:List Ent->VO->Prop} (hg:c.good) (hq:Q (curE (qv kd c).1 :: L) (.val (resB (qv kd c).2))):VApp Tryz.prog (curE c :: L) (.fn 203 [] []) [.ptr 0 0,.int .i64 kd] Q:=ql7 (qbgg kd c hg) rfl hq
theorem qbjm (x:List UInt8) (kd:Int) (b:Bool) (c:K) (hg:c.good):VCalls Tryz.prog 202 [curE c,.blk [.ptr 0 0],.blk [.ptr 0 0],.blk [.str x],.blk [.bool b],.blk [.fn 104 [] [.ptr 4 0,.ptr 2 0,.ptr 3 0]],.blk [.int .i64 kd]] [.ptr 1 0,.ptr 6 0] fun H' o=>H' = frB x kd b (qv kd c).1∧o = .val (resB (qv kd c).2):=by
 refine qq c0ex 7 (by simp) (by simp) ?_
 unfold frB
 repeat' (first | refine vs_ ?_ | ((first | refine vr_ ?_ | refine qboj hg ?_ | (refine cs_ ?_ ?_<;>intro hc) | refine cj_ ?_ | fail)<;>(try refine ev_ ?_)) | with_reducible exact ti_)
 all_goals exact ⟨rfl,rfl⟩
theorem qbiv (kd:Int) (b:Bool) (c:K) (hg:c.good):VCalls Tryz.prog 204 [curE c,.blk [.ptr 0 0],.blk [.ptr 0 0],.blk [.str [59]],.blk [.bool b],.blk [.fn 104 [] [.ptr 4 0,.ptr 2 0,.ptr 3 0]],.blk [.int .i64 kd]] [.ptr 1 0,.ptr 5 0] fun H' o=>H' = frB [59] kd (qdy b c).1 (qdy b c).2.1∧o = .val (.bool (qdy b c).2.2):=by
 refine qq c0ey 7 (by simp) (by simp) ?_
 unfold frB qdy
 by_cases hi:isK c [125] = true
 ·rw [if_pos hi]
  repeat' (first | refine vs_ ?_ | ((first | refine vr_ ?_ | fail)<;>(try simp only [hi,go_sem,↓reduceIte])) | ((first | (refine cs_ ?_ ?_<;>intro hc) | refine cj_ ?_ | fail | refine a_Is ?_ | refine qi6 hg ?_)<;>(try refine ev_ ?_)) | with_reducible exact ti_)
  all_goals first | exact ⟨rfl,rfl⟩ | (exfalso;simp_all;done) | (simp_all;done)
 ·rw [if_neg hi]
  have hi2:isK c [125] = false:=by simpa using hi
  by_cases ha:(qbh [59] b c).2.2 = true
  ·repeat' (first | refine vs_ ?_ | ((first | refine vr_ ?_ | fail)<;>(try simp only [hi2,ha,go_sem,↓reduceIte])) | ((first | (refine cs_ ?_ ?_<;>intro hc) | refine cj_ ?_ | fail | refine a_Is ?_ | refine qi6 hg ?_)<;>(try refine ev_ ?_)) | with_reducible exact ti_)
   all_goals first | exact ⟨rfl,rfl⟩ | (exfalso;simp_all;done) | (simp_all;done)
  ·have ha2:(qbh [59] b c).2.2 = false:=by simpa using ha
   repeat' (first | refine vs_ ?_ | ((first | refine vr_ ?_ | fail)<;>(try simp only [hi2,ha2,go_sem,↓reduceIte])) | ((first | (refine cs_ ?_ ?_<;>intro hc) | refine cj_ ?_ | fail | refine a_Is ?_ | refine qi6 hg ?_)<;>(try refine ev_ ?_)) | with_reducible exact ti_)
   all_goals first | exact ⟨rfl,rfl⟩ | (exfalso;simp_all;done) | (simp_all;done)
theorem q95 (kd:Int) (c:K) (a0:List N) (hg:c.good) (hl:a0.length + rest c≤1048578):RovB (qv kd) qdy 202 204 [59] kd false c a0 :=
 qbfu (qd5 kd) monB (fun b c g _=>qbjm _ kd b c g) (fun b c g _=>qbiv kd b c g) false c a0 hg (Nat.le_refl _) hl
section
variable {one:K->R3} {more:MF} {g1 g2:FuncId} {x:List UInt8} {kd:Int} {b:Bool} {c:K} {a0:List N} {Q:List Ent->VO->Prop}
theorem qbeb (h:RovB one more g1 g2 x kd b c a0) (h0:(rowS one more b c a0).2.2.1 = a0) (hq:Q [curE (rowS one more b c a0).2.1,.app 5 (encs a0),.blk [.ptr 0 0],.blk [.int .i64 kd],.blk [.ptr 0 0],.blk [.str x],.blk [.bool (rowS one more b c a0).1],.blk [.fn 104 [] [.ptr 6 0,.ptr 4 0,.ptr 5 0]]] (.val (.tup [.row 1 a0.length,.bool (rowS one more b c a0).2.2.2]))) :
 VApp Tryz.prog [curE c,.app 5 (encs a0),.blk [.ptr 0 0],.blk [.int .i64 kd],.blk [.ptr 0 0],.blk [.str x],.blk [.bool b],.blk [.fn 104 [] [.ptr 6 0,.ptr 4 0,.ptr 5 0]]] (.fn 62 [] []) [.row 1 a0.length,.fn g1 [] [.ptr 2 0,.ptr 3 0],.fn g2 [] [.ptr 2 0,.ptr 7 0]] Q :=
 qb3 (first:=[]) (caps:=[]) (by
  simp only [List.nil_append,List.append_nil]
  refine qcp (H0:=[curE c,.blk [.ptr 0 0],.blk [.ptr 0 0],.blk [.str x],.blk [.bool b],.blk [.fn 104 [] [.ptr 4 0,.ptr 2 0,.ptr 3 0]],.blk [.int .i64 kd],.app 5 (encs a0)]) (args0:=[.row 7 a0.length,.fn g1 [] [.ptr 1 0,.ptr 6 0],.fn g2 [] [.ptr 1 0,.ptr 5 0]]) [0,2,4,5,6,7,3,1] h (by simp) ?_ rfl rfl ?_
  ·(refine ev_ ?_;(try with_reducible exact ti_))
   all_goals (rw [qbs,q7];exact ⟨rfl,rfl⟩)
  intro H1 o hh
  obtain ⟨rfl,rfl⟩:=hh.1 h0
  simpa [qf3,qbw,sg',qp5,qs5,qlg,qce3,qrw,e_fn,AV.ren,AV.rens,VO.ren,qc4] using hq)
theorem q93 (h:RovB one more g1 g2 x kd b c a0) (h0:(rowS one more b c a0).2.2.1≠a0) (hq:Q [curE (rowS one more b c a0).2.1,.dead,.blk [.ptr 0 0],.blk [.int .i64 kd],.blk [.ptr 0 0],.blk [.str x],.blk [.bool (rowS one more b c a0).1],.blk [.fn 104 [] [.ptr 6 0,.ptr 4 0,.ptr 5 0]],.app 5 (encs (rowS one more b c a0).2.2.1)] (.val (.tup [.row 8 (rowS one more b c a0).2.2.1.length,.bool (rowS one more b c a0).2.2.2]))) :
 VApp Tryz.prog [curE c,.app 5 (encs a0),.blk [.ptr 0 0],.blk [.int .i64 kd],.blk [.ptr 0 0],.blk [.str x],.blk [.bool b],.blk [.fn 104 [] [.ptr 6 0,.ptr 4 0,.ptr 5 0]]] (.fn 62 [] []) [.row 1 a0.length,.fn g1 [] [.ptr 2 0,.ptr 3 0],.fn g2 [] [.ptr 2 0,.ptr 7 0]] Q :=
 qb3 (first:=[]) (caps:=[]) (by
  simp only [List.nil_append,List.append_nil]
  refine qcp (H0:=[curE c,.blk [.ptr 0 0],.blk [.ptr 0 0],.blk [.str x],.blk [.bool b],.blk [.fn 104 [] [.ptr 4 0,.ptr 2 0,.ptr 3 0]],.blk [.int .i64 kd],.app 5 (encs a0)]) (args0:=[.row 7 a0.length,.fn g1 [] [.ptr 1 0,.ptr 6 0],.fn g2 [] [.ptr 1 0,.ptr 5 0]]) [0,2,4,5,6,7,3,1] h (by simp) ?_ rfl rfl ?_
  ·(refine ev_ ?_;(try with_reducible exact ti_))
   all_goals (rw [qbs,q7];exact ⟨rfl,rfl⟩)
  intro H1 o hh
  obtain ⟨rfl,rfl⟩:=hh.2 h0
  have hd:∀ σ:Nat->Nat,Ent.dead.ren σ = .dead:=fun σ=>rfl
  simpa [qf3,qbw,sg',qp5,qs5,qlg,qce3,qrw,e_fn,hd,AV.ren,AV.rens,VO.ren,qc4] using hq)
end
theorem q6h {kd:Int}:∀ (f:Nat) (b:Bool) (c:K) (acc:List N),rest c < f->(rowF (qv kd) qdy f b c acc).2.2.1≠acc->(rowF (qv kd) qdy f b c acc).2.2.1≠[]
 | 0,_,_,_,h,_=>absurd h (by omega)
 | f + 1, b, c, acc, hf, h => by
   rw [rowF] at h ⊢
   have h3:=(monB b c).2.1
   split at h
   ·rename_i h1
    rw [if_pos h1]
    split at h
    ·rename_i h2
     rw [if_pos h2]
     have h4:=(qd5 kd).l _ h2
     by_cases hq:(rowF (qv kd) qdy f (qdy b c).1 (qv kd (qdy b c).2.1).1 (acc ++ [(qv kd (qdy b c).2.1).2.1])).2.2.1 = acc ++ [(qv kd (qdy b c).2.1).2.1]
     ·rw [hq];simp
     ·exact q6h f _ _ _ (by omega) hq
    ·exact absurd rfl h
   ·exact absurd rfl h
def qls (kd:Int) (c:K) (out:List N):Prop :=
 VCalls Tryz.prog 169 [curE c,.app 5 (encs out)] [.ptr 0 0,.row 1 out.length,.int .i64 kd] fun H' o =>
  ((qc1 kd c out).2.1 = out->H' = [curE (qc1 kd c out).1,.app 5 (encs out)]∧o = .val (.tup [.row 1 out.length,.bool (qc1 kd c out).2.2])) ∧
  ((qc1 kd c out).2.1≠out->H' = [curE (qc1 kd c out).1,.dead,.app 5 (encs (qc1 kd c out).2.1)]∧o = .val (.tup [.row 2 (qc1 kd c out).2.1.length,.bool (qc1 kd c out).2.2]))
theorem qbca (kd:Int) (c:K) (out:List N) (hg:c.good) (hl:out.length + rest c≤1048578):qls kd c out:=by
 unfold qls
 obtain ⟨kk,hk1,hk2,hk0⟩:∃ k:Nat,((qc1 kd c out).2.1 = out->k = 2)∧((qc1 kd c out).2.1≠out->k = 3)∧2≤k:=by
  by_cases h:(qc1 kd c out).2.1 = out
  ·exact ⟨2,fun _=>rfl,fun g=>absurd h g,Nat.le_refl _⟩
  ·exact ⟨3,fun g=>absurd g h,fun _=>rfl,Nat.le_succ _⟩
 refine qdx c0ez kk (by simpa using hk0) (by simp) ?_
 have g1:(qh c [119,104,101,114,101]).1.good:=(qe c _).1 hg
 have g2:(qh (qh c [119,104,101,114,101]).1 [123]).1.good:=(qe _ _).1 g1
 have r1:=(qe c [119,104,101,114,101]).2.1
 have r2:=(qe (qh c [119,104,101,114,101]).1 [123]).2.1
 unfold qc1 at *
 by_cases h1:(qh c [119,104,101,114,101]).2 = true
 ·simp only [if_pos h1] at hk1 hk2 ⊢
  by_cases h2:(qh (qh c [119,104,101,114,101]).1 [123]).2 = true
  ·simp only [if_pos h2] at hk1 hk2 ⊢
   have hR:=q95 kd (qh (qh c [119,104,101,114,101]).1 [123]).1 out g2 (by omega)
   have i0:=fun Q=>@qbeb _ _ _ _ _ _ _ _ _ Q hR
   have i1:=fun Q=>@q93 _ _ _ _ _ _ _ _ _ Q hR
   have hln0:(rowS (qv kd) qdy false (qh (qh c [119,104,101,114,101]).1 [123]).1 out).2.2.1≠out->(rowS (qv kd) qdy false (qh (qh c [119,104,101,114,101]).1 [123]).1 out).2.2.1≠[]:=q6h _ _ _ _ (Nat.lt_succ_self _)
   have g3:=(qf5 (qd5 kd) monB false (qh (qh c [119,104,101,114,101]).1 [123]).1 out).1 g2
   clear hR
   generalize rowS (qv kd) qdy false (qh (qh c [119,104,101,114,101]).1 [123]).1 out = r at *
   obtain ⟨fl,d,l,ok⟩:=r
   simp only at i0 i1 g3 hk1 hk2 hln0 ⊢
   have hln:l≠out->l≠[]:=hln0
   have hl2:(qmv (d,l,ok)).2.1 = l:=by unfold qmv;split<;>rfl
   rw [hl2] at hk1 hk2
   simp only [hl2]
   by_cases hq:l = out
   ·obtain rfl:=hk1 hq
    cases ok with
    | false =>
      unfold qmv
      repeat' (first | refine vs_ ?_ | ((first | refine vrr_ ?_ | fail)<;>(try simp only [h1,h2,go_sem,↓reduceIte])) | ((first | (refine cs_ ?_ ?_<;>intro hc) | refine cj_ ?_ | fail | refine qcc hg.ok ?_ | refine qcc g1.ok ?_ | refine qe4 ?_ | refine i0 _ hq ?_)<;>(try refine ev_ ?_)) | with_reducible exact ti_)
      all_goals first | exact ⟨fun _=>by first | trivial | exact ⟨rfl,rfl⟩,fun g=>absurd hq g⟩ | (exfalso;clear i0 i1;simp_all;done)
    | true =>
      unfold qmv
      repeat' (first | refine vs_ ?_ | ((first | refine vrr_ ?_ | fail)<;>(try simp only [h1,h2,go_sem,↓reduceIte])) | ((first | (refine cs_ ?_ ?_<;>intro hc) | refine cj_ ?_ | fail | refine qcc hg.ok ?_ | refine qcc g1.ok ?_ | refine qe4 ?_ | refine i0 _ hq ?_ | refine qcc g3.ok ?_)<;>(try refine ev_ ?_)) | with_reducible exact ti_)
      all_goals first | exact ⟨fun _=>by first | trivial | exact ⟨rfl,rfl⟩,fun g=>absurd hq g⟩ | (exfalso;clear i0 i1;simp_all;done)
   ·obtain rfl:=hk2 hq
    have hne:l≠[]:=hln hq
    unfold k0ez
    generalize h9:qbgs = R5
    repeat' (first | refine vs_ ?_ | ((first | refine vrr_ ?_ | fail)<;>(try simp only [h1,h2,go_sem,↓reduceIte])) | ((first | (refine cs_ ?_ ?_<;>intro hc) | refine cj_ ?_ | fail | refine qcc hg.ok ?_ | refine qcc g1.ok ?_ | refine qe4 ?_ | refine i1 _ hq ?_)<;>(try refine ev_ ?_)) | with_reducible exact ti_)
    all_goals first | (exfalso;clear i0 i1 h9;simp_all;done) | skip
    refine qblu (af':=⟨[(1,.row 2 l.length),(3,.ptr 3 0),(9,.bool ok)],[]⟩) (H':=[curE d,.dead,.app 5 (encs l),.blk [.ptr 0 0]]) ?_ (qbkg [0,1,8,2] rfl (by simp) ?_ ?_ ?_)
    rotate_left
    all_goals (try (refine ev_ ?_;(try with_reducible exact ti_)))
    all_goals (try (rw [q7,qbs];exact ⟨rfl,rfl⟩))
    subst h9
    cases ok with
    | false =>
      unfold qmv
      repeat' (first | refine vs_ ?_ | ((first | refine vrr_ ?_ | refine qcc g3.ok ?_ | (refine cs_ ?_ ?_<;>intro hc) | refine cj_ ?_ | fail)<;>(try refine ev_ ?_)) | with_reducible exact ti_)
      all_goals exact ⟨fun g=>absurd g hq,fun _=>by first | trivial | exact ⟨rfl,rfl⟩⟩
    | true =>
      unfold qmv
      repeat' (first | refine vs_ ?_ | ((first | refine vrr_ ?_ | refine qcc g3.ok ?_ | (refine cs_ ?_ ?_<;>intro hc) | refine cj_ ?_ | fail)<;>(try refine ev_ ?_)) | with_reducible exact ti_)
      all_goals exact ⟨fun g=>absurd g hq,fun _=>by first | trivial | exact ⟨rfl,rfl⟩⟩
  ·simp only [if_neg h2] at hk1 hk2 ⊢
   obtain rfl:=hk1 (by trivial)
   repeat' (first | refine vs_ ?_ | ((first | refine vrr_ ?_ | fail)<;>(try simp only [h1,h2,go_sem,↓reduceIte])) | ((first | (refine cs_ ?_ ?_<;>intro hc) | refine cj_ ?_ | fail | refine qcc hg.ok ?_ | refine qcc g1.ok ?_)<;>(try refine ev_ ?_)) | with_reducible exact ti_)
   all_goals first | exact ⟨rfl,rfl⟩ | exact ⟨fun _=>by first | trivial | exact ⟨rfl,rfl⟩,fun g=>absurd rfl g⟩ | (exfalso;simp_all;done) | (simp_all;done)
 ·simp only [if_neg h1] at hk1 hk2 ⊢
  obtain rfl:=hk1 (by trivial)
  repeat' (first | refine vs_ ?_ | ((first | refine vrr_ ?_ | fail)<;>(try simp only [h1,go_sem,↓reduceIte])) | ((first | (refine cs_ ?_ ?_<;>intro hc) | refine cj_ ?_ | fail | refine qcc hg.ok ?_ | refine qcc g1.ok ?_ | refine qe4 ?_)<;>(try refine ev_ ?_)) | with_reducible exact ti_)
  all_goals first | exact ⟨rfl,rfl⟩ | exact ⟨fun _=>by first | trivial | exact ⟨rfl,rfl⟩,fun g=>absurd rfl g⟩ | (exfalso;simp_all;done) | (simp_all;done)
set_option maxRecDepth 4000

section
variable {kd:Int} {c:K} {out:List N} {e1 e2 e3 e4 e5:Ent} {Q:List Ent->VO->Prop}
theorem qbpe (h:qls kd c out) (h0:(qc1 kd c out).2.1 = out) (hq:Q [curE (qc1 kd c out).1,e1,e2,e3,e4,.app 5 (encs out)] (.val (.tup [.row 5 out.length,.bool (qc1 kd c out).2.2]))) :
 VApp Tryz.prog [curE c,e1,e2,e3,e4,.app 5 (encs out)] (.fn 169 [] []) [.ptr 0 0,.row 5 out.length,.int .i64 kd] Q :=
 qb3 (first:=[]) (caps:=[]) (by
  simp only [List.nil_append,List.append_nil]
  refine qcp (H0:=[curE c,.app 5 (encs out)]) (args0:=[.ptr 0 0,.row 1 out.length,.int .i64 kd]) [0,5] h (by simp) ?_ rfl rfl ?_
  ·(refine ev_ ?_;(try with_reducible exact ti_))
   all_goals (rw [qbs,q7];exact ⟨rfl,rfl⟩)
  intro H1 o hh
  obtain ⟨rfl,rfl⟩:=hh.1 h0
  simpa [qf3,qbw,sg',qrw,AV.ren,AV.rens,VO.ren,qc4] using hq)
theorem qbp3 (h:qls kd c out) (h0:(qc1 kd c out).2.1≠out) (hq:Q [curE (qc1 kd c out).1,e1,e2,e3,e4,.dead,.app 5 (encs (qc1 kd c out).2.1)] (.val (.tup [.row 6 (qc1 kd c out).2.1.length,.bool (qc1 kd c out).2.2]))) :
 VApp Tryz.prog [curE c,e1,e2,e3,e4,.app 5 (encs out)] (.fn 169 [] []) [.ptr 0 0,.row 5 out.length,.int .i64 kd] Q :=
 qb3 (first:=[]) (caps:=[]) (by
  simp only [List.nil_append,List.append_nil]
  refine qcp (H0:=[curE c,.app 5 (encs out)]) (args0:=[.ptr 0 0,.row 1 out.length,.int .i64 kd]) [0,5] h (by simp) ?_ rfl rfl ?_
  ·(refine ev_ ?_;(try with_reducible exact ti_))
   all_goals (rw [qbs,q7];exact ⟨rfl,rfl⟩)
  intro H1 o hh
  obtain ⟨rfl,rfl⟩:=hh.2 h0
  have hd:∀ σ:Nat->Nat,Ent.dead.ren σ = .dead:=fun σ=>rfl
  simpa [qf3,qbw,sg',qrw,hd,AV.ren,AV.rens,VO.ren,qc4] using hq)
theorem qbpz (h:qls kd c out) (h0:(qc1 kd c out).2.1 = out) (hq:Q [curE (qc1 kd c out).1,e1,e2,e3,e4,e5,.app 5 (encs out)] (.val (.tup [.row 6 out.length,.bool (qc1 kd c out).2.2]))) :
 VApp Tryz.prog [curE c,e1,e2,e3,e4,e5,.app 5 (encs out)] (.fn 169 [] []) [.ptr 0 0,.row 6 out.length,.int .i64 kd] Q :=
 qb3 (first:=[]) (caps:=[]) (by
  simp only [List.nil_append,List.append_nil]
  refine qcp (H0:=[curE c,.app 5 (encs out)]) (args0:=[.ptr 0 0,.row 1 out.length,.int .i64 kd]) [0,6] h (by simp) ?_ rfl rfl ?_
  ·(refine ev_ ?_;(try with_reducible exact ti_))
   all_goals (rw [qbs,q7];exact ⟨rfl,rfl⟩)
  intro H1 o hh
  obtain ⟨rfl,rfl⟩:=hh.1 h0
  simpa [qf3,qbw,sg',qrw,AV.ren,AV.rens,VO.ren,qc4] using hq)
theorem qbp8 (h:qls kd c out) (h0:(qc1 kd c out).2.1≠out) (hq:Q [curE (qc1 kd c out).1,e1,e2,e3,e4,e5,.dead,.app 5 (encs (qc1 kd c out).2.1)] (.val (.tup [.row 7 (qc1 kd c out).2.1.length,.bool (qc1 kd c out).2.2]))) :
 VApp Tryz.prog [curE c,e1,e2,e3,e4,e5,.app 5 (encs out)] (.fn 169 [] []) [.ptr 0 0,.row 6 out.length,.int .i64 kd] Q :=
 qb3 (first:=[]) (caps:=[]) (by
  simp only [List.nil_append,List.append_nil]
  refine qcp (H0:=[curE c,.app 5 (encs out)]) (args0:=[.ptr 0 0,.row 1 out.length,.int .i64 kd]) [0,6] h (by simp) ?_ rfl rfl ?_
  ·(refine ev_ ?_;(try with_reducible exact ti_))
   all_goals (rw [qbs,q7];exact ⟨rfl,rfl⟩)
  intro H1 o hh
  obtain ⟨rfl,rfl⟩:=hh.2 h0
  have hd:∀ σ:Nat->Nat,Ent.dead.ren σ = .dead:=fun σ=>rfl
  simpa [qf3,qbw,sg',qrw,hd,AV.ren,AV.rens,VO.ren,qc4] using hq)
end
theorem qbpg:∀ l:List N,l.length≤szs l
 | []=>Nat.zero_le _
 | x :: r => by
   have:=qbpg r
   rw [szs,qg1,List.length_cons];omega
def qbk4 (k p:Int):AV:=.agg [.int .i64 k,.int .i64 p,.int .i64 0,.str [],.nils]
theorem qwn (k p:Int):AV.agg [.int .i64 k,.int .i64 p,.int .i64 0,.str [],.sl 5 []] = enc (q09 k p):=by simp only [q09,enc,encs]
theorem qjf (k p:Int) (t:T) (v l:List N):AV.agg [.int .i64 k,.int .i64 p,.int .i64 v.length,.str t.text,.sl 5 (encs l)] = enc (qi1 k p t v l):=by simp only [qi1,enc]
theorem qr6 (k p:Int) (t:T) (v:List N):AV.agg [.int .i64 k,.int .i64 p,.int .i64 v.length,.str t.text,.sl 5 []] = enc (qi1 k p t v []):=qjf k p t v []
theorem qnd (k p:Int) (t:T) (l:List N):AV.agg [.int .i64 k,.int .i64 p,.int .i64 0,.str t.text,.sl 5 (encs l)] = enc (qi1 k p t [] l):=qjf k p t [] l
theorem qs1 (k p:Int) (t:T):AV.agg [.int .i64 k,.int .i64 p,.int .i64 0,.str t.text,.sl 5 []] = enc (qi1 k p t [] []):=qjf k p t [] []
set_option maxHeartbeats 2000000 in
theorem qben (k p:Int) (c:K) (hg:c.good):qb7 Tryz.prog 107 (curE c) (curE (qik k p c).1) [.ptr 0 0,qbk4 k p] (resB (qik k p c).2):=by
 have hP:qja (qbe (rest c + 2)) c:=qtm (qbv _) (qyj (rest c + 2)) c hg (by omega)
 have p0:=@qoe (qbe (rest c + 2)) c hP
 have p1:=@qvn (qbe (rest c + 2)) c hP
 have g1:(qct c).1.good:=(qf2 c).1 hg
 have h9:=hg.rest
 have hpl:=fun l=>@q9b c l
 have hpz:=fun l (h:(qct c).2 = some l)=>Nat.le_trans (Nat.add_le_add_right (qbpg l) _) (@q1w c l h)
 clear hP
 refine qq c0ev 1 (by simp) (by simp [qbk4]) ?_
 unfold qik qyo qbk4
 unfold qct at *
 generalize qt (qbe (rest c + 2)) c = pr at *
 obtain ⟨d,o⟩:=pr
 simp only at p0 p1 g1 hpl hpz ⊢
 cases o with
 | none =>
   repeat' (first | refine vs_ ?_ | ((first | refine vrr_ ?_ | fail)<;>(try simp (disch:=first | omega | (simp only [List.length_set,List.length_append,List.length_cons,List.length_nil];done) | (simp only [List.length_set,List.length_append,List.length_cons,List.length_nil];omega)) only [Option.isSome_none,Option.getD_none,go_sem,↓reduceIte])) | ((first | (refine cs_ ?_ ?_<;>intro hc) | refine cj_ ?_ | fail | refine p0 rfl ?_)<;>(try refine ev_ ?_)) | with_reducible exact ti_)
   all_goals (try rw [qwn])
   all_goals first | exact ⟨rfl,rfl⟩ | rfl | (exfalso;clear p0 p1;simp_all;done)
 | some v =>
   have hvl:=hpl v rfl
   have hvz:=hpz v rfl
   have hvm:v.length≤maxLen:=by unfold maxLen;unfold rest at hvl;omega
   have hcap:qfe (v.length + 1) 64:=capN (by unfold rest at hvl;omega)
   have hcap1:qfe 1 64:=capN (by omega)
   have p0:v = []->_:=fun h=>@p0 h
   have p1:v≠[]->_:=fun h=>@p1 v rfl h
   clear hpl hpz
   simp only [Option.getD_some,Option.isSome_some,if_true]
   have g2:(kindK d 2).1.good:=(qbp d 2).1 g1
   have r2:=(qbp d 2).2.1
   by_cases hk:(kindK d 2).2 = true
   ·rw [if_pos hk]
    have ha:=qs0 (kindK d 2).1 g2
    have g3:=(qhj (kindK d 2).1).1 g2
    have r3:=(qhj (kindK d 2).1).2.1
    have r4:(qd8 (kindK d 2).1).2.isSome = true->rest (qd8 (kindK d 2).1).1 < rest (kindK d 2).1:=fun h=>qd0 (qbv _) h
    unfold qxa qyf
    generalize qd8 (kindK d 2).1 = a at *
    have hkl:=qo2 (by decide) hk
    have hvl2:v.length + 1 + rest a.1≤1048578:=by unfold rest at *;omega
    by_cases h35:k = 35
    ·subst h35
     simp only [true_and,if_true]
     by_cases hv:(qp (kindK d 2).1).kind = 1
     ·have hv1:=hv
      rw [if_neg (by simp [hv])]
      have hbs:=qbca 32 a.1 (v ++ [a.2.getD N0]) g3 (by simp only [List.length_append,List.length_cons,List.length_nil];unfold rest at *;omega)
      have a0:=fun e1 e2 e3 e4 Q=>@qbpe 32 a.1 (v ++ [a.2.getD N0]) e1 e2 e3 e4 Q hbs
      have a1:=fun e1 e2 e3 e4 Q=>@qbp3 32 a.1 (v ++ [a.2.getD N0]) e1 e2 e3 e4 Q hbs
      have b0:=fun e1 e2 e3 e4 e5 Q=>@qbpz 32 a.1 (v ++ [a.2.getD N0]) e1 e2 e3 e4 e5 Q hbs
      have b1:=fun e1 e2 e3 e4 e5 Q=>@qbp8 32 a.1 (v ++ [a.2.getD N0]) e1 e2 e3 e4 e5 Q hbs
      clear hbs
      generalize qc1 32 a.1 (v ++ [a.2.getD N0]) = B at *
      obtain ⟨a,oa⟩:=a
      cases oa with
      | none =>
        simp only [Option.isSome_none,Bool.false_eq_true,if_false,Option.getD_none] at ha ⊢
        clear a0 a1 b0 b1
        by_cases h0:v = []
        ·repeat' (first | refine vs_ ?_ | ((first | refine vrr_ ?_ | fail)<;>(try simp (disch:=first | omega | (simp only [List.length_set,List.length_append,List.length_cons,List.length_nil];done) | (simp only [List.length_set,List.length_append,List.length_cons,List.length_nil];omega)) only [hk,Option.isSome_some,hv1,ne_eq,not_true_eq_false,decide_false,Option.isSome_none,Option.getD_none,go_sem,↓reduceIte])) | ((first | (refine cs_ ?_ ?_<;>intro hc) | refine cj_ ?_ | fail | refine p0 h0 ?_ | refine qdb g1.ok ?_ | refine qb2 ?_ | refine qgk ?_ | refine qcs ha rfl ?_)<;>(try refine ev_ ?_)) | with_reducible exact ti_)
         all_goals (try subst h0)
         all_goals (try rw [qs1])
         all_goals first | exact ⟨rfl,rfl⟩ | rfl | (exfalso;clear p0 p1;simp_all;done)
        ·repeat' (first | refine vs_ ?_ | ((first | refine vrr_ ?_ | fail)<;>(try simp (disch:=first | omega | (simp only [List.length_set,List.length_append,List.length_cons,List.length_nil];done) | (simp only [List.length_set,List.length_append,List.length_cons,List.length_nil];omega)) only [hk,Option.isSome_some,hv1,ne_eq,not_true_eq_false,decide_false,Option.isSome_none,Option.getD_none,go_sem,↓reduceIte])) | ((first | (refine cs_ ?_ ?_<;>intro hc) | refine cj_ ?_ | fail | refine p1 h0 ?_ | refine qdb g1.ok ?_ | refine qb2 ?_ | refine qgk ?_ | refine qcs ha rfl ?_)<;>(try refine ev_ ?_)) | with_reducible exact ti_)
         all_goals (try rw [qr6])
         all_goals first | exact ⟨rfl,rfl⟩ | rfl | (exfalso;clear p0 p1;simp_all;done)
      | some n =>
        simp only [Option.isSome_some,if_true,Option.getD_some] at ha a0 a1 b0 b1 ⊢
        by_cases h0:v = []
        ·subst h0
         clear b0 b1 hcap
         simp only [List.nil_append,encs,List.length_cons,List.length_nil,Nat.zero_add] at a0 a1
         by_cases hq:B.2.1 = [n]
         ·repeat' (first | refine vs_ ?_ | ((first | refine vrr_ ?_ | fail)<;>(try simp only [hk,Option.isSome_some,hv1,ne_eq,not_true_eq_false,decide_false,go_sem,↓reduceIte])) | ((first | (refine cs_ ?_ ?_<;>intro hc) | refine cj_ ?_ | fail | refine p0 rfl ?_ | refine qdb g1.ok ?_ | refine qb2 ?_ | refine qgk ?_ | refine qcs ha rfl ?_ | refine a0 _ _ _ _ _ hq ?_)<;>(try refine ev_ ?_)) | with_reducible exact ti_)
          all_goals (try rw [hq,← qnd])
          all_goals first | exact ⟨rfl,rfl⟩ | rfl | (exfalso;clear p0 p1 a0 a1;simp_all;done)
         ·repeat' (first | refine vs_ ?_ | ((first | refine vrr_ ?_ | fail)<;>(try simp only [hk,Option.isSome_some,hv1,ne_eq,not_true_eq_false,decide_false,go_sem,↓reduceIte])) | ((first | (refine cs_ ?_ ?_<;>intro hc) | refine cj_ ?_ | fail | refine p0 rfl ?_ | refine qdb g1.ok ?_ | refine qb2 ?_ | refine qgk ?_ | refine qcs ha rfl ?_ | refine a1 _ _ _ _ _ hq ?_)<;>(try refine ev_ ?_)) | with_reducible exact ti_)
          all_goals (try rw [qnd])
          all_goals first | exact ⟨rfl,rfl⟩ | rfl | (exfalso;clear p0 p1 a0 a1;simp_all;done)
        ·clear a0 a1 hcap1
         simp only [← ql,List.length_append,List.length_cons,List.length_nil,Nat.zero_add] at b0 b1
         by_cases hq:B.2.1 = v ++ [n]
         ·repeat' (first | refine vs_ ?_ | ((first | refine vrr_ ?_ | fail)<;>(try simp only [hk,Option.isSome_some,hv1,ne_eq,not_true_eq_false,decide_false,go_sem,↓reduceIte])) | ((first | (refine cs_ ?_ ?_<;>intro hc) | refine cj_ ?_ | fail | refine p1 h0 ?_ | refine qdb g1.ok ?_ | refine qb2 ?_ | refine qgk ?_ | refine qcs ha rfl ?_ | refine b0 _ _ _ _ _ _ hq ?_)<;>(try refine ev_ ?_)) | with_reducible exact ti_)
          all_goals (try (rw [ql,qjf,hq];exact ⟨q7 _ _,rfl⟩))
          all_goals first | exact ⟨rfl,rfl⟩ | rfl | (exfalso;clear p0 p1 b0 b1;simp_all;done)
         ·repeat' (first | refine vs_ ?_ | ((first | refine vrr_ ?_ | fail)<;>(try simp only [hk,Option.isSome_some,hv1,ne_eq,not_true_eq_false,decide_false,go_sem,↓reduceIte])) | ((first | (refine cs_ ?_ ?_<;>intro hc) | refine cj_ ?_ | fail | refine p1 h0 ?_ | refine qdb g1.ok ?_ | refine qb2 ?_ | refine qgk ?_ | refine qcs ha rfl ?_ | refine b1 _ _ _ _ _ _ hq ?_)<;>(try refine ev_ ?_)) | with_reducible exact ti_)
          all_goals (try rw [qjf])
          all_goals first | exact ⟨rfl,rfl⟩ | rfl | (exfalso;clear p0 p1 b0 b1;simp_all;done)
     ·rw [if_pos hv]
      clear ha
      by_cases h0:v = []
      ·repeat' (first | refine vs_ ?_ | ((first | refine vrr_ ?_ | fail)<;>(try simp only [hk,hv,Option.isSome_some,go_sem,↓reduceIte])) | ((first | (refine cs_ ?_ ?_<;>intro hc) | refine cj_ ?_ | fail | refine p0 h0 ?_ | refine qdb g1.ok ?_ | refine qb2 ?_ | refine qgk ?_)<;>(try refine ev_ ?_)) | with_reducible exact ti_)
       all_goals (try subst h0)
       all_goals (try rw [qs1])
       all_goals first | exact ⟨rfl,rfl⟩ | rfl | (exfalso;clear p0 p1;simp_all;done)
      ·repeat' (first | refine vs_ ?_ | ((first | refine vrr_ ?_ | fail)<;>(try simp only [hk,hv,Option.isSome_some,go_sem,↓reduceIte])) | ((first | (refine cs_ ?_ ?_<;>intro hc) | refine cj_ ?_ | fail | refine p1 h0 ?_ | refine qdb g1.ok ?_ | refine qb2 ?_ | refine qgk ?_)<;>(try refine ev_ ?_)) | with_reducible exact ti_)
       all_goals (try rw [qr6])
       all_goals first | exact ⟨rfl,rfl⟩ | rfl | (exfalso;clear p0 p1;simp_all;done)
    ·simp only [if_neg h35,h35,false_and,if_false]
     have hbs:=qbca 31 a.1 (v ++ [a.2.getD N0]) g3 (by simp only [List.length_append,List.length_cons,List.length_nil];unfold rest at *;omega)
     have a0:=fun e1 e2 e3 e4 Q=>@qbpe 31 a.1 (v ++ [a.2.getD N0]) e1 e2 e3 e4 Q hbs
     have a1:=fun e1 e2 e3 e4 Q=>@qbp3 31 a.1 (v ++ [a.2.getD N0]) e1 e2 e3 e4 Q hbs
     have b0:=fun e1 e2 e3 e4 e5 Q=>@qbpz 31 a.1 (v ++ [a.2.getD N0]) e1 e2 e3 e4 e5 Q hbs
     have b1:=fun e1 e2 e3 e4 e5 Q=>@qbp8 31 a.1 (v ++ [a.2.getD N0]) e1 e2 e3 e4 e5 Q hbs
     clear hbs
     generalize qc1 31 a.1 (v ++ [a.2.getD N0]) = B at *
     obtain ⟨a,oa⟩:=a
     cases oa with
     | none =>
       simp only [Option.isSome_none,Bool.false_eq_true,if_false,Option.getD_none] at ha ⊢
       clear a0 a1 b0 b1
       by_cases h0:v = []
       ·repeat' (first | refine vs_ ?_ | ((first | refine vrr_ ?_ | fail)<;>(try simp (disch:=first | omega | (simp only [List.length_set,List.length_append,List.length_cons,List.length_nil];done) | (simp only [List.length_set,List.length_append,List.length_cons,List.length_nil];omega)) only [hk,Option.isSome_some,h35,Option.isSome_none,Option.getD_none,go_sem,↓reduceIte])) | ((first | (refine cs_ ?_ ?_<;>intro hc) | refine cj_ ?_ | fail | refine p0 h0 ?_ | refine qdb g1.ok ?_ | refine qb2 ?_ | refine qgk ?_ | refine qcs ha rfl ?_)<;>(try refine ev_ ?_)) | with_reducible exact ti_)
        all_goals (try subst h0)
        all_goals (try rw [qs1])
        all_goals first | exact ⟨rfl,rfl⟩ | rfl | (exfalso;clear p0 p1;simp_all;done)
       ·repeat' (first | refine vs_ ?_ | ((first | refine vrr_ ?_ | fail)<;>(try simp (disch:=first | omega | (simp only [List.length_set,List.length_append,List.length_cons,List.length_nil];done) | (simp only [List.length_set,List.length_append,List.length_cons,List.length_nil];omega)) only [hk,Option.isSome_some,h35,Option.isSome_none,Option.getD_none,go_sem,↓reduceIte])) | ((first | (refine cs_ ?_ ?_<;>intro hc) | refine cj_ ?_ | fail | refine p1 h0 ?_ | refine qdb g1.ok ?_ | refine qb2 ?_ | refine qgk ?_ | refine qcs ha rfl ?_)<;>(try refine ev_ ?_)) | with_reducible exact ti_)
        all_goals (try rw [qr6])
        all_goals first | exact ⟨rfl,rfl⟩ | rfl | (exfalso;clear p0 p1;simp_all;done)
     | some n =>
       simp only [Option.isSome_some,if_true,Option.getD_some] at ha a0 a1 b0 b1 ⊢
       by_cases h0:v = []
       ·subst h0
        clear b0 b1 hcap
        simp only [List.nil_append,encs,List.length_cons,List.length_nil,Nat.zero_add] at a0 a1
        by_cases hq:B.2.1 = [n]
        ·repeat' (first | refine vs_ ?_ | ((first | refine vrr_ ?_ | fail)<;>(try simp only [hk,Option.isSome_some,h35,go_sem,↓reduceIte])) | ((first | (refine cs_ ?_ ?_<;>intro hc) | refine cj_ ?_ | fail | refine p0 rfl ?_ | refine qdb g1.ok ?_ | refine qb2 ?_ | refine qgk ?_ | refine qcs ha rfl ?_ | refine a0 _ _ _ _ _ hq ?_)<;>(try refine ev_ ?_)) | with_reducible exact ti_)
         all_goals (try rw [hq,← qnd])
         all_goals first | exact ⟨rfl,rfl⟩ | rfl | (exfalso;clear p0 p1 a0 a1;simp_all;done)
        ·repeat' (first | refine vs_ ?_ | ((first | refine vrr_ ?_ | fail)<;>(try simp only [hk,Option.isSome_some,h35,go_sem,↓reduceIte])) | ((first | (refine cs_ ?_ ?_<;>intro hc) | refine cj_ ?_ | fail | refine p0 rfl ?_ | refine qdb g1.ok ?_ | refine qb2 ?_ | refine qgk ?_ | refine qcs ha rfl ?_ | refine a1 _ _ _ _ _ hq ?_)<;>(try refine ev_ ?_)) | with_reducible exact ti_)
         all_goals (try rw [qnd])
         all_goals first | exact ⟨rfl,rfl⟩ | rfl | (exfalso;clear p0 p1 a0 a1;simp_all;done)
       ·clear a0 a1 hcap1
        simp only [← ql,List.length_append,List.length_cons,List.length_nil,Nat.zero_add] at b0 b1
        by_cases hq:B.2.1 = v ++ [n]
        ·repeat' (first | refine vs_ ?_ | ((first | refine vrr_ ?_ | fail)<;>(try simp only [hk,Option.isSome_some,h35,go_sem,↓reduceIte])) | ((first | (refine cs_ ?_ ?_<;>intro hc) | refine cj_ ?_ | fail | refine p1 h0 ?_ | refine qdb g1.ok ?_ | refine qb2 ?_ | refine qgk ?_ | refine qcs ha rfl ?_ | refine b0 _ _ _ _ _ _ hq ?_)<;>(try refine ev_ ?_)) | with_reducible exact ti_)
         all_goals (try (rw [ql,qjf,hq];exact ⟨q7 _ _,rfl⟩))
         all_goals first | exact ⟨rfl,rfl⟩ | rfl | (exfalso;clear p0 p1 b0 b1;simp_all;done)
        ·repeat' (first | refine vs_ ?_ | ((first | refine vrr_ ?_ | fail)<;>(try simp only [hk,Option.isSome_some,h35,go_sem,↓reduceIte])) | ((first | (refine cs_ ?_ ?_<;>intro hc) | refine cj_ ?_ | fail | refine p1 h0 ?_ | refine qdb g1.ok ?_ | refine qb2 ?_ | refine qgk ?_ | refine qcs ha rfl ?_ | refine b1 _ _ _ _ _ _ hq ?_)<;>(try refine ev_ ?_)) | with_reducible exact ti_)
         all_goals (try rw [qjf])
         all_goals first | exact ⟨rfl,rfl⟩ | rfl | (exfalso;clear p0 p1 b0 b1;simp_all;done)
   ·rw [if_neg hk]
    by_cases h0:v = []
    ·repeat' (first | refine vs_ ?_ | ((first | refine vrr_ ?_ | fail)<;>(try simp only [hk,Option.isSome_some,go_sem,↓reduceIte])) | ((first | (refine cs_ ?_ ?_<;>intro hc) | refine cj_ ?_ | fail | refine p0 h0 ?_ | refine qdb g1.ok ?_)<;>(try refine ev_ ?_)) | with_reducible exact ti_)
     all_goals (try rw [qwn])
     all_goals first | exact ⟨rfl,rfl⟩ | rfl | (exfalso;clear p0 p1;simp_all;done)
    ·repeat' (first | refine vs_ ?_ | ((first | refine vrr_ ?_ | fail)<;>(try simp only [hk,Option.isSome_some,go_sem,↓reduceIte])) | ((first | (refine cs_ ?_ ?_<;>intro hc) | refine cj_ ?_ | fail | refine p1 h0 ?_ | refine qdb g1.ok ?_)<;>(try refine ev_ ?_)) | with_reducible exact ti_)
     all_goals (try rw [qwn])
     all_goals first | exact ⟨rfl,rfl⟩ | rfl | (exfalso;clear p0 p1;simp_all;done)
set_option maxRecDepth 4000

theorem qb4p (c:K) (hg:c.good):qb7 Tryz.prog 64 (curE c) (curE (qcr c).1) [.ptr 0 0] (resB (qcr c).2):=by
 have g1:(qf c qoz).1.good:=(qm _ _).1 hg
 have g2:(qf c qi2).1.good:=(qm _ _).1 hg
 have g3:(qf c qoj).1.good:=(qm _ _).1 hg
 have h1:=qb09 (qp c).pos _ g1
 have h2:=qben 35 (qp c).pos _ g2
 have h3:=qben 36 (qp c).pos _ g3
 have h4:=qy4 c hg
 refine qq c0er 1 (by simp) (by simp) ?_
 unfold qcr
 unfold qoz qi2 qoj posZ qbk4 at *
 by_cases t1:(qf c [100,97,116,97]).2 = true
 ·rw [if_pos t1]
  repeat' (first | refine vs_ ?_ | ((first | refine vrr_ ?_ | fail)<;>(try simp only [t1,go_sem,↓reduceIte])) | ((first | (refine cs_ ?_ ?_<;>intro hc) | refine cj_ ?_ | fail | refine qb2 ?_ | refine qef hg.ok ?_ | refine ql7 h1 rfl ?_)<;>(try refine ev_ ?_)) | with_reducible exact ti_)
 ·have t1f:(qf c [100,97,116,97]).2 = false:=by simpa using t1
  have e1:=qdh t1f
  rw [if_neg t1]
  by_cases t2:(qf c [99,108,97,115,115]).2 = true
  ·rw [if_pos t2]
   repeat' (first | refine vs_ ?_ | ((first | refine vrr_ ?_ | fail)<;>(try simp only [t1f,e1,t2,go_sem,↓reduceIte])) | ((first | (refine cs_ ?_ ?_<;>intro hc) | refine cj_ ?_ | fail | refine qb2 ?_ | refine qef hg.ok ?_ | refine ql7 h2 rfl ?_)<;>(try refine ev_ ?_)) | with_reducible exact ti_)
  ·have t2f:(qf c [99,108,97,115,115]).2 = false:=by simpa using t2
   have e2:=qdh t2f
   rw [if_neg t2]
   by_cases t3:(qf c [105,110,115,116,97,110,99,101]).2 = true
   ·rw [if_pos t3]
    repeat' (first | refine vs_ ?_ | ((first | refine vrr_ ?_ | fail)<;>(try simp only [t1f,e1,t2f,e2,t3,go_sem,↓reduceIte])) | ((first | (refine cs_ ?_ ?_<;>intro hc) | refine cj_ ?_ | fail | refine qb2 ?_ | refine qef hg.ok ?_ | refine ql7 h3 rfl ?_)<;>(try refine ev_ ?_)) | with_reducible exact ti_)
   ·have t3f:(qf c [105,110,115,116,97,110,99,101]).2 = false:=by simpa using t3
    have e3:=qdh t3f
    rw [if_neg t3]
    unfold ofO
    repeat' (first | refine vs_ ?_ | ((first | refine vrr_ ?_ | fail)<;>(try simp only [t1f,e1,t2f,e2,t3f,e3,go_sem,↓reduceIte])) | ((first | (refine cs_ ?_ ?_<;>intro hc) | refine cj_ ?_ | fail | refine qb2 ?_ | refine qef hg.ok ?_ | refine qcs h4 rfl ?_)<;>(try refine ev_ ?_)) | with_reducible exact ti_)
theorem qcha {c:K} {L:List Ent} {Q:List Ent->VO->Prop} (hg:c.good) (hq:Q (curE (qcr c).1 :: L) (.val (resB (qcr c).2))):VApp Tryz.prog (curE c :: L) (.fn 64 [] []) [.ptr 0 0] Q:=ql7 (qb4p c hg) rfl hq
theorem qbm6 (x:List UInt8) (b:Bool) (c:K) (hg:c.good):VCalls Tryz.prog 63 [curE c,.blk [.ptr 0 0],.blk [.ptr 0 0],.blk [.str x],.blk [.bool b],.blk [.fn 104 [] [.ptr 4 0,.ptr 2 0,.ptr 3 0]]] [.ptr 1 0] fun H' o=>H' = frP x b (qcr c).1∧o = .val (resB (qcr c).2):=by
 refine qq c0es 6 (by simp) (by simp) ?_
 unfold frP
 repeat' (first | refine vs_ ?_ | ((first | refine vr_ ?_ | refine qcha hg ?_ | (refine cs_ ?_ ?_<;>intro hc) | refine cj_ ?_ | fail)<;>(try refine ev_ ?_)) | with_reducible exact ti_)
 all_goals exact ⟨rfl,rfl⟩
theorem qblt (b:Bool) (c:K) (hg:c.good):VCalls Tryz.prog 65 [curE c,.blk [.ptr 0 0],.blk [.ptr 0 0],.blk [.str [59]],.blk [.bool b],.blk [.fn 104 [] [.ptr 4 0,.ptr 2 0,.ptr 3 0]]] [.ptr 1 0,.ptr 5 0] fun H' o=>H' = frP [59] (qd7 b c).1 (qd7 b c).2.1∧o = .val (.bool (qd7 b c).2.2):=by
 refine qq c0et 6 (by simp) (by simp) ?_
 unfold frP qd7
 by_cases hi:(qp c).kind = 0
 ·rw [if_pos hi]
  repeat' (first | refine vs_ ?_ | ((first | refine vr_ ?_ | fail)<;>(try simp only [hi,ne_eq,not_true_eq_false,decide_false,go_sem,↓reduceIte])) | ((first | (refine cs_ ?_ ?_<;>intro hc) | refine cj_ ?_ | fail | refine qb2 ?_ | refine qi6 hg ?_)<;>(try refine ev_ ?_)) | with_reducible exact ti_)
  all_goals first | exact ⟨rfl,rfl⟩ | (exfalso;simp_all;done) | (simp_all;done)
 ·rw [if_neg hi]
  by_cases ha:(qbh [59] b c).2.2 = true
  ·repeat' (first | refine vs_ ?_ | ((first | refine vr_ ?_ | fail)<;>(try simp only [hi,ha,ne_eq,not_false_eq_true,decide_true,go_sem,↓reduceIte])) | ((first | (refine cs_ ?_ ?_<;>intro hc) | refine cj_ ?_ | fail | refine qb2 ?_ | refine qi6 hg ?_)<;>(try refine ev_ ?_)) | with_reducible exact ti_)
   all_goals first | exact ⟨rfl,rfl⟩ | (exfalso;simp_all;done) | (simp_all;done)
  ·have ha2:(qbh [59] b c).2.2 = false:=by simpa using ha
   repeat' (first | refine vs_ ?_ | ((first | refine vr_ ?_ | fail)<;>(try simp only [hi,ha2,ne_eq,not_false_eq_true,decide_true,go_sem,↓reduceIte])) | ((first | (refine cs_ ?_ ?_<;>intro hc) | refine cj_ ?_ | fail | refine qb2 ?_ | refine qi6 hg ?_)<;>(try refine ev_ ?_)) | with_reducible exact ti_)
   all_goals first | exact ⟨rfl,rfl⟩ | (exfalso;simp_all;done) | (simp_all;done)
theorem qbc3 (c:K) (hg:c.good):RowP qcr qd7 63 65 [59] false c :=
 qbfk goes_decl monP (fun b c g _=>qbm6 _ b c g) (fun b c g _=>qblt b c g) false c hg (Nat.le_refl _)
section
variable {one:K->R3} {more:MF} {g1 g2:FuncId} {x:List UInt8} {b:Bool} {c:K} {e2:Ent} {Q:List Ent->VO->Prop}
theorem qbft (h:RowP one more g1 g2 x b c) (h0:(rowS one more b c []).2.2.1 = []) (hq:Q [curE (rowS one more b c []).2.1,.blk [.ptr 0 0],e2,.blk [.ptr 0 0],.blk [.str x],.blk [.bool (rowS one more b c []).1],.blk [.fn 104 [] [.ptr 5 0,.ptr 3 0,.ptr 4 0]]] (.val (.tup [.nils,.bool (rowS one more b c []).2.2.2]))) :
 VApp Tryz.prog [curE c,.blk [.ptr 0 0],e2,.blk [.ptr 0 0],.blk [.str x],.blk [.bool b],.blk [.fn 104 [] [.ptr 5 0,.ptr 3 0,.ptr 4 0]]] (.fn 62 [] []) [.nils,.fn g1 [] [.ptr 1 0],.fn g2 [] [.ptr 1 0,.ptr 6 0]] Q :=
 qb3 (first:=[]) (caps:=[]) (by
  simp only [List.nil_append,List.append_nil]
  refine qcp (H0:=[curE c,.blk [.ptr 0 0],.blk [.ptr 0 0],.blk [.str x],.blk [.bool b],.blk [.fn 104 [] [.ptr 4 0,.ptr 2 0,.ptr 3 0]]]) (args0:=[.nils,.fn g1 [] [.ptr 1 0],.fn g2 [] [.ptr 1 0,.ptr 5 0]]) [0,1,3,4,5,6] h (by simp) ?_ rfl rfl ?_
  ·(refine ev_ ?_;(try with_reducible exact ti_))
  rintro H1 o ⟨rfl,rfl⟩
  rw [h0]
  simpa [encs,qbo,qbl,qf3,qbw,sg',qp5,qs5,qlg,e_fn,AV.ren,AV.rens,VO.ren,qc4] using hq)
theorem q96 (h:RowP one more g1 g2 x b c) (h0:(rowS one more b c []).2.2.1≠[]) (hq:Q [curE (rowS one more b c []).2.1,.blk [.ptr 0 0],e2,.blk [.ptr 0 0],.blk [.str x],.blk [.bool (rowS one more b c []).1],.blk [.fn 104 [] [.ptr 5 0,.ptr 3 0,.ptr 4 0]],.app 5 (encs (rowS one more b c []).2.2.1)] (.val (.tup [.row 7 (rowS one more b c []).2.2.1.length,.bool (rowS one more b c []).2.2.2]))) :
 VApp Tryz.prog [curE c,.blk [.ptr 0 0],e2,.blk [.ptr 0 0],.blk [.str x],.blk [.bool b],.blk [.fn 104 [] [.ptr 5 0,.ptr 3 0,.ptr 4 0]]] (.fn 62 [] []) [.nils,.fn g1 [] [.ptr 1 0],.fn g2 [] [.ptr 1 0,.ptr 6 0]] Q :=
 qb3 (first:=[]) (caps:=[]) (by
  simp only [List.nil_append,List.append_nil]
  refine qcp (H0:=[curE c,.blk [.ptr 0 0],.blk [.ptr 0 0],.blk [.str x],.blk [.bool b],.blk [.fn 104 [] [.ptr 4 0,.ptr 2 0,.ptr 3 0]]]) (args0:=[.nils,.fn g1 [] [.ptr 1 0],.fn g2 [] [.ptr 1 0,.ptr 5 0]]) [0,1,3,4,5,6] h (by simp) ?_ rfl rfl ?_
  ·(refine ev_ ?_;(try with_reducible exact ti_))
  rintro H1 o ⟨rfl,rfl⟩
  rw [qbu (qbf h0),qbt (qbf h0),qbc]
  simpa [qf3,qbw,sg',qp5,qs5,qlg,e_fn,qrw,AV.ren,AV.rens,VO.ren,qc4] using hq)
end
theorem q6x (l:List N):AV.agg [.int .i64 37,.int .i64 0,.int .i64 0,.str [],.sl 5 (encs l)] = enc (quk l):=by simp only [quk,enc]
theorem qbfn:AV.agg [.int .i64 37,.int .i64 0,.int .i64 0,.str [],.sl 5 []] = enc (quk []):=q6x []
theorem qb3f (c:K) (hg:c.good):qb7 Tryz.prog 60 (curE c) (curE (qk9 c).1) [.ptr 0 0] (enc ((qk9 c).2.getD N0)):=by
 have hR:=qbc3 c hg
 have i0:=fun e2 Q=>@qbft _ _ _ _ _ _ _ e2 Q hR
 have i1:=fun e2 Q=>@q96 _ _ _ _ _ _ _ e2 Q hR
 clear hR
 refine qq c0eu 1 (by simp) (by simp) ?_
 unfold qk9
 generalize rowS qcr qd7 false c [] = r at *
 by_cases hq:r.2.2.1 = []
 ·repeat' (first | refine vs_ ?_ | ((first | refine vrr_ ?_ | refine qe4 ?_ | refine i0 _ _ hq ?_ | (refine cs_ ?_ ?_<;>intro hc) | refine cj_ ?_ | fail)<;>(try refine ev_ ?_)) | with_reducible exact ti_)
  all_goals (rw [Option.getD_some,hq,← qbfn];first | done | rfl | exact ⟨rfl,rfl⟩)
 ·repeat' (first | refine vs_ ?_ | ((first | refine vrr_ ?_ | refine qe4 ?_ | refine i1 _ _ hq ?_ | (refine cs_ ?_ ?_<;>intro hc) | refine cj_ ?_ | fail)<;>(try refine ev_ ?_)) | with_reducible exact ti_)
  all_goals (rw [Option.getD_some,← q6x];first | done | rfl | exact ⟨rfl,rfl⟩)
def qmu (s:List UInt8):N×Int×Int:=q3o qk9 s
end Go.Proofs.YtlmcofjcpadmiaaGreat
