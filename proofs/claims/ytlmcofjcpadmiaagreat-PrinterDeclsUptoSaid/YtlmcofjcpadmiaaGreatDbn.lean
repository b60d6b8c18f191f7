/- Texts of this proof, joined. -/
import Derived.Test.YtlmcofjcpadmiaaGreatDbg
set_option linter.unusedVariables false
set_option linter.unusedSimpArgs false

/- declarations: the program: rows (printed by tools/rows.py) -/
set_option maxRecDepth 4000
namespace Go.Proofs.YtlmcofjcpadmiaaGreat
open Go Go.RowKit Go.V

def frA (b:Bool) (c:K):List Ent:=[curE c,.blk [.ptr 0 0]]
theorem qzk (b:Bool) (c:K):(frA b c).all (Ent.bd 2) = true:=by
 simp only [frA,List.all_cons,List.all_nil,qp,Bool.true_and,Bool.and_true];rfl
theorem qnn {g:FuncId} {b:Bool} {c c':K} {r:N×Bool} {L:List Ent} {Q:List Ent->VO->Prop} (h:VCalls Tryz.prog g [curE c,.blk [.ptr 0 0]] [.ptr 1 0] fun H' o=>H' = (frA b c')∧o = .val (resB r)) (hq:Q (curE c' :: .blk [.ptr 0 0] :: L) (.val (resB r))) :
 VApp Tryz.prog (curE c :: .blk [.ptr 0 0] :: L) (.fn g [] [.ptr 1 0]) [] Q :=
 qbr (first:=[]) (caps:=[.ptr 1 0]) (by
  simp only [List.nil_append]
  refine qc1 (H0:=[curE c,.blk [.ptr 0 0]]) (L:=L) h (qzk b c) rfl ?_
  rintro H1 o ⟨rfl,rfl⟩
  exact ⟨rfl,qzk _ _,ql3 _ _,hq⟩)
theorem qha {g:FuncId} {b' a:Bool} {c c':K} {L:List Ent} {Q:List Ent->VO->Prop} (h:VCalls Tryz.prog g [curE c,.blk [.ptr 0 0]] [.ptr 1 0] fun H' o=>H' = (frA b' c')∧o = .val (.bool a)) (hq:Q (curE c' :: .blk [.ptr 0 0] :: L) (.val (.bool a))) :
 VApp Tryz.prog (curE c :: .blk [.ptr 0 0] :: L) (.fn g [] [.ptr 1 0]) [] Q :=
 qbr (first:=[]) (caps:=[.ptr 1 0]) (by
  simp only [List.nil_append]
  refine qc1 (H0:=[curE c,.blk [.ptr 0 0]]) (L:=L) h (qzk false c) rfl ?_
  rintro H1 o ⟨rfl,rfl⟩
  exact ⟨rfl,qzk _ _,rfl,hq⟩)
def RowA (one:K->R3) (more:MF) (g1 g2:FuncId) (b:Bool) (c:K):Prop :=
 VCalls Tryz.prog 62 [curE c,.blk [.ptr 0 0]] [.nils,.fn g1 [] [.ptr 1 0],.fn g2 [] [.ptr 1 0]] fun H' o =>
  H' = curE (rowS one more b c []).2.1 :: .blk [.ptr 0 0] :: accE 5 (encs (rowS one more b c []).2.2.1)∧o = .val (.tup [accV 2 (encs (rowS one more b c []).2.2.1),.bool (rowS one more b c []).2.2.2])
def qwd (g1 g2:FuncId) (s:Bool×Nat×K×List N):AF×List Ent :=
 (⟨[(0,accV 2 (encs s.2.2.2)),(1,.fn g1 [] [.ptr 1 0]),(2,.fn g2 [] [.ptr 1 0])],[]⟩,curE s.2.2.1 :: .blk [.ptr 0 0] :: accE 5 (encs s.2.2.2))
theorem qvy {one:K->R3} {more:MF} {g1 g2:FuncId} {n:Nat} (ho:Goes one) (hm:MonM more)
 (h1:∀ b c,c.good->rest c≤n->VCalls Tryz.prog g1 [curE c,.blk [.ptr 0 0]] [.ptr 1 0] fun H' o=>H' = (frA b (one c).1)∧o = .val (resB (one c).2))
 (h2:∀ b c,c.good->rest c≤n->VCalls Tryz.prog g2 [curE c,.blk [.ptr 0 0]] [.ptr 1 0] fun H' o=>H' = (frA (more b c).1 (more b c).2.1)∧o = .val (.bool (more b c).2.2))
 (b0:Bool) (c0:K) (hg:c0.good) (hr:rest c0≤n):RowA one more g1 g2 b0 c0:=by
 unfold RowA
 have hl:([]:List N).length + rest c0≤1048578:=by have h9:=hg.rest;unfold rest;simp only [List.length_nil];omega
 obtain ⟨kk,hk1,hk2,hk0⟩:∃ k:Nat,((rowS one more b0 c0 []).2.2.1 = []->k = 2)∧((rowS one more b0 c0 []).2.2.1≠[]->k = 3)∧2≤k:=by
  by_cases h:(rowS one more b0 c0 []).2.2.1 = []
  ·exact ⟨2,fun _=>rfl,fun g=>absurd h g,Nat.le_refl _⟩
  ·exact ⟨3,fun g=>absurd g h,fun _=>rfl,Nat.le_succ _⟩
 refine qdd c0fq kk (by simpa using hk0) (by simp) ?_
 generalize htg:rowS one more b0 c0 [] = tg at hk1 hk2 ⊢
 unfold rowS at htg
 repeat' (first | refine vs_ ?_ | ((first | refine vr_ ?_ | (refine cs_ ?_ ?_<;>intro hc) | refine cj_ ?_ | fail)<;>(try refine ev_ ?_)) | with_reducible exact ti_)
 refine qcc (S:=Bool×Nat×K×List N) (fun s=>s.2.2.1.good∧rest s.2.2.1≤n∧rowF one more s.2.1 s.1 s.2.2.1 s.2.2.2 = tg∧rest s.2.2.1 < s.2.1∧s.2.2.2.length + rest s.2.2.1≤1048578) (qwd g1 g2) (fun s=>rest s.2.2.1) ?_ ?_
 ·refine qbl (b0,rest c0 + 1,c0,[]) [0,1] ⟨hg,hr,htg,Nat.lt_succ_self _,hl⟩ rfl (by simp) ?_ ?_ ?_
  all_goals simp only [qwd,encs,qbb,qbc]
  all_goals (refine ev_ ?_;(try with_reducible exact ti_))
 ·rintro ⟨fl,fu,d,acc⟩ ⟨i1,i2,i3,i4,i5⟩
  simp only at i1 i2 i3 i4 i5
  obtain ⟨fu,rfl⟩:∃ k,fu = k + 1:=⟨fu - 1,by omega⟩
  rw [rowF] at i3
  have hcap:qec (acc.length + 1) 64:=capN (by omega)
  have hmore:=h2 fl d i1 i2
  have g1:=(hm fl d).1 i1
  have r1:=(hm fl d).2.1
  have hone:=h1 (more fl d).1 (more fl d).2.1 g1 (by omega)
  have g2:=(ho.m (more fl d).2.1).1 g1
  have r2:=(ho.m (more fl d).2.1).2.1
  have hlt:=ho.l (more fl d).2.1
  unfold qwd
  generalize more fl d = M at *
  obtain ⟨fl',d',ans⟩:=M
  simp only at hmore g1 r1 hone g2 r2 hlt i3
  generalize one d' = r at *
  obtain ⟨e,y,ok⟩:=r
  simp only at hone g2 r2 hlt i3
  cases ans with
  | false =>
    rw [if_neg (by simp)] at i3
    subst i3
    by_cases h0:acc = []
    ·subst h0
     obtain rfl:=hk1 rfl
     simp only [encs,qbb,qbc]
     repeat' (first | refine vs_ ?_ | ((first | refine vr_ ?_ | refine qha hmore ?_ | (refine cs_ ?_ ?_<;>intro hc) | refine cj_ ?_ | fail)<;>(try refine ev_ ?_)) | with_reducible exact ti_)
     all_goals first | exact ⟨rfl,rfl⟩
    ·have hne:=q9 h0
     obtain rfl:=hk2 h0
     simp only [qbi hne,qbh hne,q8]
     repeat' (first | refine vs_ ?_ | ((first | refine vr_ ?_ | refine qha hmore ?_ | (refine cs_ ?_ ?_<;>intro hc) | refine cj_ ?_ | fail)<;>(try refine ev_ ?_)) | with_reducible exact ti_)
     all_goals first | exact ⟨rfl,rfl⟩
  | true =>
    rw [if_pos rfl] at i3
    cases ok with
    | false =>
      rw [if_neg (by simp)] at i3
      subst i3
      by_cases h0:acc = []
      ·subst h0
       obtain rfl:=hk1 rfl
       simp only [encs,qbb,qbc]
       repeat' (first | refine vs_ ?_ | ((first | refine vr_ ?_ | refine qha hmore ?_ | refine qnn hone ?_ | (refine cs_ ?_ ?_<;>intro hc) | refine cj_ ?_ | fail)<;>(try refine ev_ ?_)) | with_reducible exact ti_)
       all_goals first | exact ⟨rfl,rfl⟩
      ·have hne:=q9 h0
       obtain rfl:=hk2 h0
       simp only [qbi hne,qbh hne,q8]
       repeat' (first | refine vs_ ?_ | ((first | refine vr_ ?_ | refine qha hmore ?_ | refine qnn hone ?_ | (refine cs_ ?_ ?_<;>intro hc) | refine cj_ ?_ | fail)<;>(try refine ev_ ?_)) | with_reducible exact ti_)
       all_goals first | exact ⟨rfl,rfl⟩
    | true =>
      have hlt:=hlt rfl
      rw [if_pos rfl] at i3
      have hne3:¬ acc ++ [y] = []:=by simp
      have hlen:(acc ++ [y]).length = acc.length + 1:=by simp
      by_cases h0:acc = []
      ·subst h0
       simp only [encs,qbb,qbc]
       repeat' (first | refine vs_ ?_ | ((first | refine vr_ ?_ | refine qha hmore ?_ | refine qnn hone ?_ | (refine cs_ ?_ ?_<;>intro hc) | refine cj_ ?_ | fail)<;>(try refine ev_ ?_)) | with_reducible exact ti_)
       refine qbl (fl',fu,e,[] ++ [y]) [0,1,3] ⟨⟨g2,by simp only;omega,i3,by simp only;omega,by simp only [hlen];omega⟩,by simp only;omega⟩ rfl (by simp) ?_ ?_ ?_
       all_goals simp only [qwd,qbh (q9 hne3),qbi (q9 hne3),q8,hlen,← qh]
       all_goals (refine ev_ ?_;(try with_reducible exact ti_))
       all_goals first | (rw [qh];exact qu _ _) | exact ⟨rfl,rfl⟩ | rfl | (rw [qh,qu,qbf];exact ⟨rfl,rfl⟩)
      ·have hne:=q9 h0
       simp only [qbi hne,qbh hne,q8]
       repeat' (first | refine vs_ ?_ | ((first | refine vr_ ?_ | refine qha hmore ?_ | refine qnn hone ?_ | (refine cs_ ?_ ?_<;>intro hc) | refine cj_ ?_ | fail)<;>(try refine ev_ ?_)) | with_reducible exact ti_)
       refine qbl (fl',fu,e,acc ++ [y]) [0,1,4] ⟨⟨g2,by simp only;omega,i3,by simp only;omega,by simp only [hlen];omega⟩,by simp only;omega⟩ rfl (by simp) ?_ ?_ ?_
       all_goals simp only [qwd,qbh (q9 hne3),qbi (q9 hne3),q8,hlen,← qh]
       all_goals (refine ev_ ?_;(try with_reducible exact ti_))
       all_goals first | (rw [qh];exact qu _ _) | exact ⟨rfl,rfl⟩ | rfl | (rw [qh,qu,qbf];exact ⟨rfl,rfl⟩)

def frD (x:List UInt8) (b:Bool) (c:K):List Ent:=[curE c,.blk [.ptr 0 0],.blk [.ptr 0 0],.blk [.str x],.blk [.bool b]]
theorem qza {x:List UInt8} (b:Bool) (c:K):(frD x b c).all (Ent.bd 5) = true:=by
 simp only [frD,List.all_cons,List.all_nil,qp,Bool.true_and,Bool.and_true];rfl
theorem qgp {g:FuncId} {x:List UInt8} {b:Bool} {c c':K} {r:N×Bool} {L:List Ent} {Q:List Ent->VO->Prop} (h:VCalls Tryz.prog g [curE c,.blk [.ptr 0 0],.blk [.ptr 0 0],.blk [.str x],.blk [.bool b]] [.ptr 1 0] fun H' o=>H' = (frD x b c')∧o = .val (resB r)) (hq:Q (curE c' :: .blk [.ptr 0 0] :: .blk [.ptr 0 0] :: .blk [.str x] :: .blk [.bool b] :: L) (.val (resB r))) :
 VApp Tryz.prog (curE c :: .blk [.ptr 0 0] :: .blk [.ptr 0 0] :: .blk [.str x] :: .blk [.bool b] :: L) (.fn g [] [.ptr 1 0]) [] Q :=
 qbr (first:=[]) (caps:=[.ptr 1 0]) (by
  simp only [List.nil_append]
  refine qc1 (H0:=[curE c,.blk [.ptr 0 0],.blk [.ptr 0 0],.blk [.str x],.blk [.bool b]]) (L:=L) h (qza (x:=x) b c) rfl ?_
  rintro H1 o ⟨rfl,rfl⟩
  exact ⟨rfl,qza _ _,ql3 _ _,hq⟩)
theorem qdm {g:FuncId} {x:List UInt8} {b b' a:Bool} {c c':K} {L:List Ent} {Q:List Ent->VO->Prop} (h:VCalls Tryz.prog g [curE c,.blk [.ptr 0 0],.blk [.ptr 0 0],.blk [.str x],.blk [.bool b]] [.ptr 4 0,.ptr 2 0,.ptr 3 0] fun H' o=>H' = (frD x b' c')∧o = .val (.bool a)) (hq:Q (curE c' :: .blk [.ptr 0 0] :: .blk [.ptr 0 0] :: .blk [.str x] :: .blk [.bool b'] :: L) (.val (.bool a))) :
 VApp Tryz.prog (curE c :: .blk [.ptr 0 0] :: .blk [.ptr 0 0] :: .blk [.str x] :: .blk [.bool b] :: L) (.fn g [] [.ptr 4 0,.ptr 2 0,.ptr 3 0]) [] Q :=
 qbr (first:=[]) (caps:=[.ptr 4 0,.ptr 2 0,.ptr 3 0]) (by
  simp only [List.nil_append]
  refine qc1 (H0:=[curE c,.blk [.ptr 0 0],.blk [.ptr 0 0],.blk [.str x],.blk [.bool b]]) (L:=L) h (qza (x:=x) b c) rfl ?_
  rintro H1 o ⟨rfl,rfl⟩
  exact ⟨rfl,qza _ _,rfl,hq⟩)
def RowD (one:K->R3) (more:MF) (g1 g2:FuncId) (x:List UInt8) (b:Bool) (c:K):Prop :=
 VCalls Tryz.prog 62 [curE c,.blk [.ptr 0 0],.blk [.ptr 0 0],.blk [.str x],.blk [.bool b]] [.nils,.fn g1 [] [.ptr 1 0],.fn g2 [] [.ptr 4 0,.ptr 2 0,.ptr 3 0]] fun H' o =>
  H' = curE (rowS one more b c []).2.1 :: .blk [.ptr 0 0] :: .blk [.ptr 0 0] :: .blk [.str x] :: .blk [.bool (rowS one more b c []).1] :: accE 5 (encs (rowS one more b c []).2.2.1)∧o = .val (.tup [accV 5 (encs (rowS one more b c []).2.2.1),.bool (rowS one more b c []).2.2.2])
def qua (g1 g2:FuncId) (x:List UInt8) (s:Bool×Nat×K×List N):AF×List Ent :=
 (⟨[(0,accV 5 (encs s.2.2.2)),(1,.fn g1 [] [.ptr 1 0]),(2,.fn g2 [] [.ptr 4 0,.ptr 2 0,.ptr 3 0])],[]⟩,curE s.2.2.1 :: .blk [.ptr 0 0] :: .blk [.ptr 0 0] :: .blk [.str x] :: .blk [.bool s.1] :: accE 5 (encs s.2.2.2))
theorem q7d {one:K->R3} {more:MF} {g1 g2:FuncId} {x:List UInt8} {n:Nat} (ho:Goes one) (hm:MonM more)
 (h1:∀ b c,c.good->rest c≤n->VCalls Tryz.prog g1 [curE c,.blk [.ptr 0 0],.blk [.ptr 0 0],.blk [.str x],.blk [.bool b]] [.ptr 1 0] fun H' o=>H' = (frD x b (one c).1)∧o = .val (resB (one c).2))
 (h2:∀ b c,c.good->rest c≤n->VCalls Tryz.prog g2 [curE c,.blk [.ptr 0 0],.blk [.ptr 0 0],.blk [.str x],.blk [.bool b]] [.ptr 4 0,.ptr 2 0,.ptr 3 0] fun H' o=>H' = (frD x (more b c).1 (more b c).2.1)∧o = .val (.bool (more b c).2.2))
 (b0:Bool) (c0:K) (hg:c0.good) (hr:rest c0≤n):RowD one more g1 g2 x b0 c0:=by
 unfold RowD
 have hl:([]:List N).length + rest c0≤1048578:=by have h9:=hg.rest;unfold rest;simp only [List.length_nil];omega
 obtain ⟨kk,hk1,hk2,hk0⟩:∃ k:Nat,((rowS one more b0 c0 []).2.2.1 = []->k = 5)∧((rowS one more b0 c0 []).2.2.1≠[]->k = 6)∧5≤k:=by
  by_cases h:(rowS one more b0 c0 []).2.2.1 = []
  ·exact ⟨5,fun _=>rfl,fun g=>absurd h g,Nat.le_refl _⟩
  ·exact ⟨6,fun g=>absurd g h,fun _=>rfl,Nat.le_succ _⟩
 refine qdd c0fq kk (by simpa using hk0) (by simp) ?_
 generalize htg:rowS one more b0 c0 [] = tg at hk1 hk2 ⊢
 unfold rowS at htg
 repeat' (first | refine vs_ ?_ | ((first | refine vr_ ?_ | (refine cs_ ?_ ?_<;>intro hc) | refine cj_ ?_ | fail)<;>(try refine ev_ ?_)) | with_reducible exact ti_)
 refine qcc (S:=Bool×Nat×K×List N) (fun s=>s.2.2.1.good∧rest s.2.2.1≤n∧rowF one more s.2.1 s.1 s.2.2.1 s.2.2.2 = tg∧rest s.2.2.1 < s.2.1∧s.2.2.2.length + rest s.2.2.1≤1048578) (qua g1 g2 x) (fun s=>rest s.2.2.1) ?_ ?_
 ·refine qbl (b0,rest c0 + 1,c0,[]) [0,1,2,3,4] ⟨hg,hr,htg,Nat.lt_succ_self _,hl⟩ rfl (by simp) ?_ ?_ ?_
  all_goals simp only [qua,encs,qbb,qbc]
  all_goals (refine ev_ ?_;(try with_reducible exact ti_))
 ·rintro ⟨fl,fu,d,acc⟩ ⟨i1,i2,i3,i4,i5⟩
  simp only at i1 i2 i3 i4 i5
  obtain ⟨fu,rfl⟩:∃ k,fu = k + 1:=⟨fu - 1,by omega⟩
  rw [rowF] at i3
  have hcap:qec (acc.length + 1) 64:=capN (by omega)
  have hmore:=h2 fl d i1 i2
  have g1:=(hm fl d).1 i1
  have r1:=(hm fl d).2.1
  have hone:=h1 (more fl d).1 (more fl d).2.1 g1 (by omega)
  have g2:=(ho.m (more fl d).2.1).1 g1
  have r2:=(ho.m (more fl d).2.1).2.1
  have hlt:=ho.l (more fl d).2.1
  unfold qua
  generalize more fl d = M at *
  obtain ⟨fl',d',ans⟩:=M
  simp only at hmore g1 r1 hone g2 r2 hlt i3
  generalize one d' = r at *
  obtain ⟨e,y,ok⟩:=r
  simp only at hone g2 r2 hlt i3
  cases ans with
  | false =>
    rw [if_neg (by simp)] at i3
    subst i3
    by_cases h0:acc = []
    ·subst h0
     obtain rfl:=hk1 rfl
     simp only [encs,qbb,qbc]
     repeat' (first | refine vs_ ?_ | ((first | refine vr_ ?_ | refine qdm hmore ?_ | (refine cs_ ?_ ?_<;>intro hc) | refine cj_ ?_ | fail)<;>(try refine ev_ ?_)) | with_reducible exact ti_)
     all_goals first | exact ⟨rfl,rfl⟩
    ·have hne:=q9 h0
     obtain rfl:=hk2 h0
     simp only [qbi hne,qbh hne,q8]
     repeat' (first | refine vs_ ?_ | ((first | refine vr_ ?_ | refine qdm hmore ?_ | (refine cs_ ?_ ?_<;>intro hc) | refine cj_ ?_ | fail)<;>(try refine ev_ ?_)) | with_reducible exact ti_)
     all_goals first | exact ⟨rfl,rfl⟩
  | true =>
    rw [if_pos rfl] at i3
    cases ok with
    | false =>
      rw [if_neg (by simp)] at i3
      subst i3
      by_cases h0:acc = []
      ·subst h0
       obtain rfl:=hk1 rfl
       simp only [encs,qbb,qbc]
       repeat' (first | refine vs_ ?_ | ((first | refine vr_ ?_ | refine qdm hmore ?_ | refine qgp hone ?_ | (refine cs_ ?_ ?_<;>intro hc) | refine cj_ ?_ | fail)<;>(try refine ev_ ?_)) | with_reducible exact ti_)
       all_goals first | exact ⟨rfl,rfl⟩
      ·have hne:=q9 h0
       obtain rfl:=hk2 h0
       simp only [qbi hne,qbh hne,q8]
       repeat' (first | refine vs_ ?_ | ((first | refine vr_ ?_ | refine qdm hmore ?_ | refine qgp hone ?_ | (refine cs_ ?_ ?_<;>intro hc) | refine cj_ ?_ | fail)<;>(try refine ev_ ?_)) | with_reducible exact ti_)
       all_goals first | exact ⟨rfl,rfl⟩
    | true =>
      have hlt:=hlt rfl
      rw [if_pos rfl] at i3
      have hne3:¬ acc ++ [y] = []:=by simp
      have hlen:(acc ++ [y]).length = acc.length + 1:=by simp
      by_cases h0:acc = []
      ·subst h0
       simp only [encs,qbb,qbc]
       repeat' (first | refine vs_ ?_ | ((first | refine vr_ ?_ | refine qdm hmore ?_ | refine qgp hone ?_ | (refine cs_ ?_ ?_<;>intro hc) | refine cj_ ?_ | fail)<;>(try refine ev_ ?_)) | with_reducible exact ti_)
       refine qbl (fl',fu,e,[] ++ [y]) [0,1,2,3,4,6] ⟨⟨g2,by simp only;omega,i3,by simp only;omega,by simp only [hlen];omega⟩,by simp only;omega⟩ rfl (by simp) ?_ ?_ ?_
       all_goals simp only [qua,qbh (q9 hne3),qbi (q9 hne3),q8,hlen,← qh]
       all_goals (refine ev_ ?_;(try with_reducible exact ti_))
       all_goals first | (rw [qh];exact qu _ _) | exact ⟨rfl,rfl⟩ | rfl | (rw [qh,qu,qbf];exact ⟨rfl,rfl⟩)
      ·have hne:=q9 h0
       simp only [qbi hne,qbh hne,q8]
       repeat' (first | refine vs_ ?_ | ((first | refine vr_ ?_ | refine qdm hmore ?_ | refine qgp hone ?_ | (refine cs_ ?_ ?_<;>intro hc) | refine cj_ ?_ | fail)<;>(try refine ev_ ?_)) | with_reducible exact ti_)
       refine qbl (fl',fu,e,acc ++ [y]) [0,1,2,3,4,7] ⟨⟨g2,by simp only;omega,i3,by simp only;omega,by simp only [hlen];omega⟩,by simp only;omega⟩ rfl (by simp) ?_ ?_ ?_
       all_goals simp only [qua,qbh (q9 hne3),qbi (q9 hne3),q8,hlen,← qh]
       all_goals (refine ev_ ?_;(try with_reducible exact ti_))
       all_goals first | (rw [qh];exact qu _ _) | exact ⟨rfl,rfl⟩ | rfl | (rw [qh,qu,qbf];exact ⟨rfl,rfl⟩)
def RovD (one:K->R3) (more:MF) (g1 g2:FuncId) (x:List UInt8) (b:Bool) (c:K) (a0:List N):Prop :=
 VCalls Tryz.prog 62 (curE c :: .blk [.ptr 0 0] :: .blk [.ptr 0 0] :: .blk [.str x] :: .blk [.bool b] :: [.app 5 (encs a0)]) [.row 5 a0.length,.fn g1 [] [.ptr 1 0],.fn g2 [] [.ptr 4 0,.ptr 2 0,.ptr 3 0]] fun H' o =>
  ((rowS one more b c a0).2.2.1 = a0->H' = curE (rowS one more b c a0).2.1 :: .blk [.ptr 0 0] :: .blk [.ptr 0 0] :: .blk [.str x] :: .blk [.bool (rowS one more b c a0).1] :: [.app 5 (encs a0)]∧o = .val (.tup [.row 5 a0.length,.bool (rowS one more b c a0).2.2.2])) ∧
  ((rowS one more b c a0).2.2.1≠a0->H' = curE (rowS one more b c a0).2.1 :: .blk [.ptr 0 0] :: .blk [.ptr 0 0] :: .blk [.str x] :: .blk [.bool (rowS one more b c a0).1] :: .dead :: [.app 5 (encs (rowS one more b c a0).2.2.1)]∧o = .val (.tup [.row 6 (rowS one more b c a0).2.2.1.length,.bool (rowS one more b c a0).2.2.2]))
def qwm (g1 g2:FuncId) (x:List UInt8) (a0:List N) (s:Bool×Nat×K×List N):AF×List Ent :=
 if s.2.2.2.length = a0.length then (⟨[(0,.row 5 a0.length),(1,.fn g1 [] [.ptr 1 0]),(2,.fn g2 [] [.ptr 4 0,.ptr 2 0,.ptr 3 0])],[]⟩,curE s.2.2.1 :: .blk [.ptr 0 0] :: .blk [.ptr 0 0] :: .blk [.str x] :: .blk [.bool s.1] :: [.app 5 (encs a0)])
 else (⟨[(0,.row 6 s.2.2.2.length),(1,.fn g1 [] [.ptr 1 0]),(2,.fn g2 [] [.ptr 4 0,.ptr 2 0,.ptr 3 0])],[]⟩,curE s.2.2.1 :: .blk [.ptr 0 0] :: .blk [.ptr 0 0] :: .blk [.str x] :: .blk [.bool s.1] :: .dead :: [.app 5 (encs s.2.2.2)])
theorem q4x {one:K->R3} {more:MF} {g1 g2:FuncId} {x:List UInt8} {n:Nat} (ho:Goes one) (hm:MonM more)
 (h1:∀ b c,c.good->rest c≤n->VCalls Tryz.prog g1 [curE c,.blk [.ptr 0 0],.blk [.ptr 0 0],.blk [.str x],.blk [.bool b]] [.ptr 1 0] fun H' o=>H' = (frD x b (one c).1)∧o = .val (resB (one c).2))
 (h2:∀ b c,c.good->rest c≤n->VCalls Tryz.prog g2 [curE c,.blk [.ptr 0 0],.blk [.ptr 0 0],.blk [.str x],.blk [.bool b]] [.ptr 4 0,.ptr 2 0,.ptr 3 0] fun H' o=>H' = (frD x (more b c).1 (more b c).2.1)∧o = .val (.bool (more b c).2.2))
 (b0:Bool) (c0:K) (a0:List N) (hg:c0.good) (hr:rest c0≤n) (hl:a0.length + rest c0≤1048578):RovD one more g1 g2 x b0 c0 a0:=by
 unfold RovD
 obtain ⟨kk,hk1,hk2,hk0⟩:∃ k:Nat,((rowS one more b0 c0 a0).2.2.1 = a0->k = 6)∧((rowS one more b0 c0 a0).2.2.1≠a0->k = 7)∧6≤k:=by
  by_cases h:(rowS one more b0 c0 a0).2.2.1 = a0
  ·exact ⟨6,fun _=>rfl,fun g=>absurd h g,Nat.le_refl _⟩
  ·exact ⟨7,fun g=>absurd g h,fun _=>rfl,Nat.le_succ _⟩
 refine qdd c0fq kk (by simpa using hk0) (by simp) ?_
 generalize htg:rowS one more b0 c0 a0 = tg at hk1 hk2 ⊢
 unfold rowS at htg
 repeat' (first | refine vs_ ?_ | ((first | refine vr_ ?_ | (refine cs_ ?_ ?_<;>intro hc) | refine cj_ ?_ | fail)<;>(try refine ev_ ?_)) | with_reducible exact ti_)
 refine qcc (S:=Bool×Nat×K×List N) (fun s=>s.2.2.1.good∧rest s.2.2.1≤n∧rowF one more s.2.1 s.1 s.2.2.1 s.2.2.2 = tg∧rest s.2.2.1 < s.2.1∧s.2.2.2.length + rest s.2.2.1≤1048578∧a0.length≤s.2.2.2.length∧(s.2.2.2.length = a0.length->s.2.2.2 = a0)) (qwm g1 g2 x a0) (fun s=>rest s.2.2.1) ?_ ?_
 ·refine qbl (b0,rest c0 + 1,c0,a0) [0,1,2,3,4,5] ⟨hg,hr,htg,Nat.lt_succ_self _,hl,Nat.le_refl _,fun _=>rfl⟩ rfl (by simp) ?_ ?_ ?_
  all_goals simp only [qwm,if_true]
  all_goals (refine ev_ ?_;(try with_reducible exact ti_))
  all_goals first | exact qu _ _ | exact ⟨rfl,rfl⟩ | rfl | (rw [qu,qbf];exact ⟨rfl,rfl⟩)
 ·rintro ⟨fl,fu,d,acc⟩ ⟨i1,i2,i3,i4,i5,i6,i7⟩
  simp only at i6 i7
  simp only at i1 i2 i3 i4 i5
  obtain ⟨fu,rfl⟩:∃ k,fu = k + 1:=⟨fu - 1,by omega⟩
  rw [rowF] at i3
  have hcap:qec (acc.length + 1) 64:=capN (by omega)
  have hmore:=h2 fl d i1 i2
  have g1:=(hm fl d).1 i1
  have r1:=(hm fl d).2.1
  have hone:=h1 (more fl d).1 (more fl d).2.1 g1 (by omega)
  have g2:=(ho.m (more fl d).2.1).1 g1
  have r2:=(ho.m (more fl d).2.1).2.1
  have hlt:=ho.l (more fl d).2.1
  unfold qwm
  generalize more fl d = M at *
  obtain ⟨fl',d',ans⟩:=M
  simp only at hmore g1 r1 hone g2 r2 hlt i3
  generalize one d' = r at *
  obtain ⟨e,y,ok⟩:=r
  simp only at hone g2 r2 hlt i3
  have hneA:¬ acc.length + 1 = a0.length:=by omega
  have hlen:(acc ++ [y]).length = acc.length + 1:=by simp
  by_cases h0:acc = a0
  ·have h0l:acc.length = a0.length:=by rw [h0]
   simp only [if_pos h0l]
   cases ans with
   | false =>
     rw [if_neg (by simp)] at i3
     subst i3
     obtain rfl:=hk1 h0
     repeat' (first | refine vs_ ?_ | ((first | refine vr_ ?_ | refine qdm hmore ?_ | (refine cs_ ?_ ?_<;>intro hc) | refine cj_ ?_ | fail)<;>(try refine ev_ ?_)) | with_reducible exact ti_)
     all_goals exact ⟨fun _=>by first | trivial | exact ⟨rfl,rfl⟩,fun g=>absurd h0 g⟩
   | true =>
     rw [if_pos rfl] at i3
     cases ok with
     | false =>
       rw [if_neg (by simp)] at i3
       subst i3
       obtain rfl:=hk1 h0
       repeat' (first | refine vs_ ?_ | ((first | refine vr_ ?_ | refine qdm hmore ?_ | refine qgp hone ?_ | (refine cs_ ?_ ?_<;>intro hc) | refine cj_ ?_ | fail)<;>(try refine ev_ ?_)) | with_reducible exact ti_)
       all_goals exact ⟨fun _=>by first | trivial | exact ⟨rfl,rfl⟩,fun g=>absurd h0 g⟩
     | true =>
       have hlt:=hlt rfl
       rw [if_pos rfl] at i3
       subst h0
       repeat' (first | refine vs_ ?_ | ((first | refine vr_ ?_ | refine qdm hmore ?_ | refine qgp hone ?_ | (refine cs_ ?_ ?_<;>intro hc) | refine cj_ ?_ | fail)<;>(try refine ev_ ?_)) | with_reducible exact ti_)
       refine qbl (fl',fu,e,acc ++ [y]) [0,1,2,3,4,5,7] ⟨⟨g2,by simp only;omega,i3,by simp only;omega,by simp only [hlen];omega,by simp only [hlen];omega,fun h=>by simp only [hlen] at h;omega⟩,by simp only;omega⟩ rfl (by simp) ?_ ?_ ?_
       all_goals simp only [qwm,hlen,if_neg hneA,← qh]
       all_goals (refine ev_ ?_;(try with_reducible exact ti_))
       all_goals first | (rw [qh];exact qu _ _) | exact ⟨rfl,rfl⟩ | rfl | (rw [qh,qu,qbf];exact ⟨rfl,rfl⟩)
  ·have h0l:¬ acc.length = a0.length:=fun h=>h0 (i7 h)
   simp only [if_neg h0l]
   cases ans with
   | false =>
     rw [if_neg (by simp)] at i3
     subst i3
     obtain rfl:=hk2 h0
     repeat' (first | refine vs_ ?_ | ((first | refine vr_ ?_ | refine qdm hmore ?_ | (refine cs_ ?_ ?_<;>intro hc) | refine cj_ ?_ | fail)<;>(try refine ev_ ?_)) | with_reducible exact ti_)
     all_goals exact ⟨fun g=>absurd g h0,fun _=>by first | trivial | exact ⟨rfl,rfl⟩⟩
   | true =>
     rw [if_pos rfl] at i3
     cases ok with
     | false =>
       rw [if_neg (by simp)] at i3
       subst i3
       obtain rfl:=hk2 h0
       repeat' (first | refine vs_ ?_ | ((first | refine vr_ ?_ | refine qdm hmore ?_ | refine qgp hone ?_ | (refine cs_ ?_ ?_<;>intro hc) | refine cj_ ?_ | fail)<;>(try refine ev_ ?_)) | with_reducible exact ti_)
       all_goals exact ⟨fun g=>absurd g h0,fun _=>by first | trivial | exact ⟨rfl,rfl⟩⟩
     | true =>
       have hlt:=hlt rfl
       rw [if_pos rfl] at i3
       repeat' (first | refine vs_ ?_ | ((first | refine vr_ ?_ | refine qdm hmore ?_ | refine qgp hone ?_ | (refine cs_ ?_ ?_<;>intro hc) | refine cj_ ?_ | fail)<;>(try refine ev_ ?_)) | with_reducible exact ti_)
       refine qbl (fl',fu,e,acc ++ [y]) [0,1,2,3,4,5,8] ⟨⟨g2,by simp only;omega,i3,by simp only;omega,by simp only [hlen];omega,by simp only [hlen];omega,fun h=>by simp only [hlen] at h;omega⟩,by simp only;omega⟩ rfl (by simp) ?_ ?_ ?_
       all_goals simp only [qwm,hlen,if_neg hneA,← qh]
       all_goals (refine ev_ ?_;(try with_reducible exact ti_))
       all_goals first | (rw [qh];exact qu _ _) | exact ⟨rfl,rfl⟩ | rfl | (rw [qh,qu,qbf];exact ⟨rfl,rfl⟩)

def frP (x:List UInt8) (b:Bool) (c:K):List Ent:=[curE c,.blk [.ptr 0 0],.blk [.ptr 0 0],.blk [.str x],.blk [.bool b],.blk [.fn 104 [] [.ptr 4 0,.ptr 2 0,.ptr 3 0]]]
theorem qzd {x:List UInt8} (b:Bool) (c:K):(frP x b c).all (Ent.bd 6) = true:=by
 simp only [frP,List.all_cons,List.all_nil,qp,Bool.true_and,Bool.and_true];rfl
theorem qm9 {g:FuncId} {x:List UInt8} {b:Bool} {c c':K} {r:N×Bool} {L:List Ent} {Q:List Ent->VO->Prop} (h:VCalls Tryz.prog g [curE c,.blk [.ptr 0 0],.blk [.ptr 0 0],.blk [.str x],.blk [.bool b],.blk [.fn 104 [] [.ptr 4 0,.ptr 2 0,.ptr 3 0]]] [.ptr 1 0] fun H' o=>H' = (frP x b c')∧o = .val (resB r)) (hq:Q (curE c' :: .blk [.ptr 0 0] :: .blk [.ptr 0 0] :: .blk [.str x] :: .blk [.bool b] :: .blk [.fn 104 [] [.ptr 4 0,.ptr 2 0,.ptr 3 0]] :: L) (.val (resB r))) :
 VApp Tryz.prog (curE c :: .blk [.ptr 0 0] :: .blk [.ptr 0 0] :: .blk [.str x] :: .blk [.bool b] :: .blk [.fn 104 [] [.ptr 4 0,.ptr 2 0,.ptr 3 0]] :: L) (.fn g [] [.ptr 1 0]) [] Q :=
 qbr (first:=[]) (caps:=[.ptr 1 0]) (by
  simp only [List.nil_append]
  refine qc1 (H0:=[curE c,.blk [.ptr 0 0],.blk [.ptr 0 0],.blk [.str x],.blk [.bool b],.blk [.fn 104 [] [.ptr 4 0,.ptr 2 0,.ptr 3 0]]]) (L:=L) h (qzd (x:=x) b c) rfl ?_
  rintro H1 o ⟨rfl,rfl⟩
  exact ⟨rfl,qzd _ _,ql3 _ _,hq⟩)
theorem qhb {g:FuncId} {x:List UInt8} {b b' a:Bool} {c c':K} {L:List Ent} {Q:List Ent->VO->Prop} (h:VCalls Tryz.prog g [curE c,.blk [.ptr 0 0],.blk [.ptr 0 0],.blk [.str x],.blk [.bool b],.blk [.fn 104 [] [.ptr 4 0,.ptr 2 0,.ptr 3 0]]] [.ptr 1 0,.ptr 5 0] fun H' o=>H' = (frP x b' c')∧o = .val (.bool a)) (hq:Q (curE c' :: .blk [.ptr 0 0] :: .blk [.ptr 0 0] :: .blk [.str x] :: .blk [.bool b'] :: .blk [.fn 104 [] [.ptr 4 0,.ptr 2 0,.ptr 3 0]] :: L) (.val (.bool a))) :
 VApp Tryz.prog (curE c :: .blk [.ptr 0 0] :: .blk [.ptr 0 0] :: .blk [.str x] :: .blk [.bool b] :: .blk [.fn 104 [] [.ptr 4 0,.ptr 2 0,.ptr 3 0]] :: L) (.fn g [] [.ptr 1 0,.ptr 5 0]) [] Q :=
 qbr (first:=[]) (caps:=[.ptr 1 0,.ptr 5 0]) (by
  simp only [List.nil_append]
  refine qc1 (H0:=[curE c,.blk [.ptr 0 0],.blk [.ptr 0 0],.blk [.str x],.blk [.bool b],.blk [.fn 104 [] [.ptr 4 0,.ptr 2 0,.ptr 3 0]]]) (L:=L) h (qzd (x:=x) b c) rfl ?_
  rintro H1 o ⟨rfl,rfl⟩
  exact ⟨rfl,qzd _ _,rfl,hq⟩)
def RowP (one:K->R3) (more:MF) (g1 g2:FuncId) (x:List UInt8) (b:Bool) (c:K):Prop :=
 VCalls Tryz.prog 62 [curE c,.blk [.ptr 0 0],.blk [.ptr 0 0],.blk [.str x],.blk [.bool b],.blk [.fn 104 [] [.ptr 4 0,.ptr 2 0,.ptr 3 0]]] [.nils,.fn g1 [] [.ptr 1 0],.fn g2 [] [.ptr 1 0,.ptr 5 0]] fun H' o =>
  H' = curE (rowS one more b c []).2.1 :: .blk [.ptr 0 0] :: .blk [.ptr 0 0] :: .blk [.str x] :: .blk [.bool (rowS one more b c []).1] :: .blk [.fn 104 [] [.ptr 4 0,.ptr 2 0,.ptr 3 0]] :: accE 5 (encs (rowS one more b c []).2.2.1)∧o = .val (.tup [accV 6 (encs (rowS one more b c []).2.2.1),.bool (rowS one more b c []).2.2.2])
def qwe (g1 g2:FuncId) (x:List UInt8) (s:Bool×Nat×K×List N):AF×List Ent :=
 (⟨[(0,accV 6 (encs s.2.2.2)),(1,.fn g1 [] [.ptr 1 0]),(2,.fn g2 [] [.ptr 1 0,.ptr 5 0])],[]⟩,curE s.2.2.1 :: .blk [.ptr 0 0] :: .blk [.ptr 0 0] :: .blk [.str x] :: .blk [.bool s.1] :: .blk [.fn 104 [] [.ptr 4 0,.ptr 2 0,.ptr 3 0]] :: accE 5 (encs s.2.2.2))
theorem q84 {one:K->R3} {more:MF} {g1 g2:FuncId} {x:List UInt8} {n:Nat} (ho:Goes one) (hm:MonM more)
 (h1:∀ b c,c.good->rest c≤n->VCalls Tryz.prog g1 [curE c,.blk [.ptr 0 0],.blk [.ptr 0 0],.blk [.str x],.blk [.bool b],.blk [.fn 104 [] [.ptr 4 0,.ptr 2 0,.ptr 3 0]]] [.ptr 1 0] fun H' o=>H' = (frP x b (one c).1)∧o = .val (resB (one c).2))
 (h2:∀ b c,c.good->rest c≤n->VCalls Tryz.prog g2 [curE c,.blk [.ptr 0 0],.blk [.ptr 0 0],.blk [.str x],.blk [.bool b],.blk [.fn 104 [] [.ptr 4 0,.ptr 2 0,.ptr 3 0]]] [.ptr 1 0,.ptr 5 0] fun H' o=>H' = (frP x (more b c).1 (more b c).2.1)∧o = .val (.bool (more b c).2.2))
 (b0:Bool) (c0:K) (hg:c0.good) (hr:rest c0≤n):RowP one more g1 g2 x b0 c0:=by
 unfold RowP
 have hl:([]:List N).length + rest c0≤1048578:=by have h9:=hg.rest;unfold rest;simp only [List.length_nil];omega
 obtain ⟨kk,hk1,hk2,hk0⟩:∃ k:Nat,((rowS one more b0 c0 []).2.2.1 = []->k = 6)∧((rowS one more b0 c0 []).2.2.1≠[]->k = 7)∧6≤k:=by
  by_cases h:(rowS one more b0 c0 []).2.2.1 = []
  ·exact ⟨6,fun _=>rfl,fun g=>absurd h g,Nat.le_refl _⟩
  ·exact ⟨7,fun g=>absurd g h,fun _=>rfl,Nat.le_succ _⟩
 refine qdd c0fq kk (by simpa using hk0) (by simp) ?_
 generalize htg:rowS one more b0 c0 [] = tg at hk1 hk2 ⊢
 unfold rowS at htg
 repeat' (first | refine vs_ ?_ | ((first | refine vr_ ?_ | (refine cs_ ?_ ?_<;>intro hc) | refine cj_ ?_ | fail)<;>(try refine ev_ ?_)) | with_reducible exact ti_)
 refine qcc (S:=Bool×Nat×K×List N) (fun s=>s.2.2.1.good∧rest s.2.2.1≤n∧rowF one more s.2.1 s.1 s.2.2.1 s.2.2.2 = tg∧rest s.2.2.1 < s.2.1∧s.2.2.2.length + rest s.2.2.1≤1048578) (qwe g1 g2 x) (fun s=>rest s.2.2.1) ?_ ?_
 ·refine qbl (b0,rest c0 + 1,c0,[]) [0,1,2,3,4,5] ⟨hg,hr,htg,Nat.lt_succ_self _,hl⟩ rfl (by simp) ?_ ?_ ?_
  all_goals simp only [qwe,encs,qbb,qbc]
  all_goals (refine ev_ ?_;(try with_reducible exact ti_))
 ·rintro ⟨fl,fu,d,acc⟩ ⟨i1,i2,i3,i4,i5⟩
  simp only at i1 i2 i3 i4 i5
  obtain ⟨fu,rfl⟩:∃ k,fu = k + 1:=⟨fu - 1,by omega⟩
  rw [rowF] at i3
  have hcap:qec (acc.length + 1) 64:=capN (by omega)
  have hmore:=h2 fl d i1 i2
  have g1:=(hm fl d).1 i1
  have r1:=(hm fl d).2.1
  have hone:=h1 (more fl d).1 (more fl d).2.1 g1 (by omega)
  have g2:=(ho.m (more fl d).2.1).1 g1
  have r2:=(ho.m (more fl d).2.1).2.1
  have hlt:=ho.l (more fl d).2.1
  unfold qwe
  generalize more fl d = M at *
  obtain ⟨fl',d',ans⟩:=M
  simp only at hmore g1 r1 hone g2 r2 hlt i3
  generalize one d' = r at *
  obtain ⟨e,y,ok⟩:=r
  simp only at hone g2 r2 hlt i3
  cases ans with
  | false =>
    rw [if_neg (by simp)] at i3
    subst i3
    by_cases h0:acc = []
    ·subst h0
     obtain rfl:=hk1 rfl
     simp only [encs,qbb,qbc]
     repeat' (first | refine vs_ ?_ | ((first | refine vr_ ?_ | refine qhb hmore ?_ | (refine cs_ ?_ ?_<;>intro hc) | refine cj_ ?_ | fail)<;>(try refine ev_ ?_)) | with_reducible exact ti_)
     all_goals first | exact ⟨rfl,rfl⟩
    ·have hne:=q9 h0
     obtain rfl:=hk2 h0
     simp only [qbi hne,qbh hne,q8]
     repeat' (first | refine vs_ ?_ | ((first | refine vr_ ?_ | refine qhb hmore ?_ | (refine cs_ ?_ ?_<;>intro hc) | refine cj_ ?_ | fail)<;>(try refine ev_ ?_)) | with_reducible exact ti_)
     all_goals first | exact ⟨rfl,rfl⟩
  | true =>
    rw [if_pos rfl] at i3
    cases ok with
    | false =>
      rw [if_neg (by simp)] at i3
      subst i3
      by_cases h0:acc = []
      ·subst h0
       obtain rfl:=hk1 rfl
       simp only [encs,qbb,qbc]
       repeat' (first | refine vs_ ?_ | ((first | refine vr_ ?_ | refine qhb hmore ?_ | refine qm9 hone ?_ | (refine cs_ ?_ ?_<;>intro hc) | refine cj_ ?_ | fail)<;>(try refine ev_ ?_)) | with_reducible exact ti_)
       all_goals first | exact ⟨rfl,rfl⟩
      ·have hne:=q9 h0
       obtain rfl:=hk2 h0
       simp only [qbi hne,qbh hne,q8]
       repeat' (first | refine vs_ ?_ | ((first | refine vr_ ?_ | refine qhb hmore ?_ | refine qm9 hone ?_ | (refine cs_ ?_ ?_<;>intro hc) | refine cj_ ?_ | fail)<;>(try refine ev_ ?_)) | with_reducible exact ti_)
       all_goals first | exact ⟨rfl,rfl⟩
    | true =>
      have hlt:=hlt rfl
      rw [if_pos rfl] at i3
      have hne3:¬ acc ++ [y] = []:=by simp
      have hlen:(acc ++ [y]).length = acc.length + 1:=by simp
      by_cases h0:acc = []
      ·subst h0
       simp only [encs,qbb,qbc]
       repeat' (first | refine vs_ ?_ | ((first | refine vr_ ?_ | refine qhb hmore ?_ | refine qm9 hone ?_ | (refine cs_ ?_ ?_<;>intro hc) | refine cj_ ?_ | fail)<;>(try refine ev_ ?_)) | with_reducible exact ti_)
       refine qbl (fl',fu,e,[] ++ [y]) [0,1,2,3,4,5,7] ⟨⟨g2,by simp only;omega,i3,by simp only;omega,by simp only [hlen];omega⟩,by simp only;omega⟩ rfl (by simp) ?_ ?_ ?_
       all_goals simp only [qwe,qbh (q9 hne3),qbi (q9 hne3),q8,hlen,← qh]
       all_goals (refine ev_ ?_;(try with_reducible exact ti_))
       all_goals first | (rw [qh];exact qu _ _) | exact ⟨rfl,rfl⟩ | rfl | (rw [qh,qu,qbf];exact ⟨rfl,rfl⟩)
      ·have hne:=q9 h0
       simp only [qbi hne,qbh hne,q8]
       repeat' (first | refine vs_ ?_ | ((first | refine vr_ ?_ | refine qhb hmore ?_ | refine qm9 hone ?_ | (refine cs_ ?_ ?_<;>intro hc) | refine cj_ ?_ | fail)<;>(try refine ev_ ?_)) | with_reducible exact ti_)
       refine qbl (fl',fu,e,acc ++ [y]) [0,1,2,3,4,5,8] ⟨⟨g2,by simp only;omega,i3,by simp only;omega,by simp only [hlen];omega⟩,by simp only;omega⟩ rfl (by simp) ?_ ?_ ?_
       all_goals simp only [qwe,qbh (q9 hne3),qbi (q9 hne3),q8,hlen,← qh]
       all_goals (refine ev_ ?_;(try with_reducible exact ti_))
       all_goals first | (rw [qh];exact qu _ _) | exact ⟨rfl,rfl⟩ | rfl | (rw [qh,qu,qbf];exact ⟨rfl,rfl⟩)

def frB (x:List UInt8) (kd:Int) (b:Bool) (c:K):List Ent:=[curE c,.blk [.ptr 0 0],.blk [.ptr 0 0],.blk [.str x],.blk [.bool b],.blk [.fn 104 [] [.ptr 4 0,.ptr 2 0,.ptr 3 0]],.blk [.int .i64 kd]]
theorem q0f {x:List UInt8} {kd:Int} (b:Bool) (c:K):(frB x kd b c).all (Ent.bd 7) = true:=by
 simp only [frB,List.all_cons,List.all_nil,qp,Bool.true_and,Bool.and_true];rfl
theorem qnq {g:FuncId} {x:List UInt8} {kd:Int} {b:Bool} {c c':K} {r:N×Bool} {L:List Ent} {Q:List Ent->VO->Prop} (h:VCalls Tryz.prog g [curE c,.blk [.ptr 0 0],.blk [.ptr 0 0],.blk [.str x],.blk [.bool b],.blk [.fn 104 [] [.ptr 4 0,.ptr 2 0,.ptr 3 0]],.blk [.int .i64 kd]] [.ptr 1 0,.ptr 6 0] fun H' o=>H' = (frB x kd b c')∧o = .val (resB r)) (hq:Q (curE c' :: .blk [.ptr 0 0] :: .blk [.ptr 0 0] :: .blk [.str x] :: .blk [.bool b] :: .blk [.fn 104 [] [.ptr 4 0,.ptr 2 0,.ptr 3 0]] :: .blk [.int .i64 kd] :: L) (.val (resB r))) :
 VApp Tryz.prog (curE c :: .blk [.ptr 0 0] :: .blk [.ptr 0 0] :: .blk [.str x] :: .blk [.bool b] :: .blk [.fn 104 [] [.ptr 4 0,.ptr 2 0,.ptr 3 0]] :: .blk [.int .i64 kd] :: L) (.fn g [] [.ptr 1 0,.ptr 6 0]) [] Q :=
 qbr (first:=[]) (caps:=[.ptr 1 0,.ptr 6 0]) (by
  simp only [List.nil_append]
  refine qc1 (H0:=[curE c,.blk [.ptr 0 0],.blk [.ptr 0 0],.blk [.str x],.blk [.bool b],.blk [.fn 104 [] [.ptr 4 0,.ptr 2 0,.ptr 3 0]],.blk [.int .i64 kd]]) (L:=L) h (q0f (x:=x) (kd:=kd) b c) rfl ?_
  rintro H1 o ⟨rfl,rfl⟩
  exact ⟨rfl,q0f _ _,ql3 _ _,hq⟩)
theorem qhf {g:FuncId} {x:List UInt8} {kd:Int} {b b' a:Bool} {c c':K} {L:List Ent} {Q:List Ent->VO->Prop} (h:VCalls Tryz.prog g [curE c,.blk [.ptr 0 0],.blk [.ptr 0 0],.blk [.str x],.blk [.bool b],.blk [.fn 104 [] [.ptr 4 0,.ptr 2 0,.ptr 3 0]],.blk [.int .i64 kd]] [.ptr 1 0,.ptr 5 0] fun H' o=>H' = (frB x kd b' c')∧o = .val (.bool a)) (hq:Q (curE c' :: .blk [.ptr 0 0] :: .blk [.ptr 0 0] :: .blk [.str x] :: .blk [.bool b'] :: .blk [.fn 104 [] [.ptr 4 0,.ptr 2 0,.ptr 3 0]] :: .blk [.int .i64 kd] :: L) (.val (.bool a))) :
 VApp Tryz.prog (curE c :: .blk [.ptr 0 0] :: .blk [.ptr 0 0] :: .blk [.str x] :: .blk [.bool b] :: .blk [.fn 104 [] [.ptr 4 0,.ptr 2 0,.ptr 3 0]] :: .blk [.int .i64 kd] :: L) (.fn g [] [.ptr 1 0,.ptr 5 0]) [] Q :=
 qbr (first:=[]) (caps:=[.ptr 1 0,.ptr 5 0]) (by
  simp only [List.nil_append]
  refine qc1 (H0:=[curE c,.blk [.ptr 0 0],.blk [.ptr 0 0],.blk [.str x],.blk [.bool b],.blk [.fn 104 [] [.ptr 4 0,.ptr 2 0,.ptr 3 0]],.blk [.int .i64 kd]]) (L:=L) h (q0f (x:=x) (kd:=kd) b c) rfl ?_
  rintro H1 o ⟨rfl,rfl⟩
  exact ⟨rfl,q0f _ _,rfl,hq⟩)
def RovB (one:K->R3) (more:MF) (g1 g2:FuncId) (x:List UInt8) (kd:Int) (b:Bool) (c:K) (a0:List N):Prop :=
 VCalls Tryz.prog 62 (curE c :: .blk [.ptr 0 0] :: .blk [.ptr 0 0] :: .blk [.str x] :: .blk [.bool b] :: .blk [.fn 104 [] [.ptr 4 0,.ptr 2 0,.ptr 3 0]] :: .blk [.int .i64 kd] :: [.app 5 (encs a0)]) [.row 7 a0.length,.fn g1 [] [.ptr 1 0,.ptr 6 0],.fn g2 [] [.ptr 1 0,.ptr 5 0]] fun H' o =>
  ((rowS one more b c a0).2.2.1 = a0->H' = curE (rowS one more b c a0).2.1 :: .blk [.ptr 0 0] :: .blk [.ptr 0 0] :: .blk [.str x] :: .blk [.bool (rowS one more b c a0).1] :: .blk [.fn 104 [] [.ptr 4 0,.ptr 2 0,.ptr 3 0]] :: .blk [.int .i64 kd] :: [.app 5 (encs a0)]∧o = .val (.tup [.row 7 a0.length,.bool (rowS one more b c a0).2.2.2])) ∧
  ((rowS one more b c a0).2.2.1≠a0->H' = curE (rowS one more b c a0).2.1 :: .blk [.ptr 0 0] :: .blk [.ptr 0 0] :: .blk [.str x] :: .blk [.bool (rowS one more b c a0).1] :: .blk [.fn 104 [] [.ptr 4 0,.ptr 2 0,.ptr 3 0]] :: .blk [.int .i64 kd] :: .dead :: [.app 5 (encs (rowS one more b c a0).2.2.1)]∧o = .val (.tup [.row 8 (rowS one more b c a0).2.2.1.length,.bool (rowS one more b c a0).2.2.2]))
def qun (g1 g2:FuncId) (x:List UInt8) (kd:Int) (a0:List N) (s:Bool×Nat×K×List N):AF×List Ent :=
 if s.2.2.2.length = a0.length then (⟨[(0,.row 7 a0.length),(1,.fn g1 [] [.ptr 1 0,.ptr 6 0]),(2,.fn g2 [] [.ptr 1 0,.ptr 5 0])],[]⟩,curE s.2.2.1 :: .blk [.ptr 0 0] :: .blk [.ptr 0 0] :: .blk [.str x] :: .blk [.bool s.1] :: .blk [.fn 104 [] [.ptr 4 0,.ptr 2 0,.ptr 3 0]] :: .blk [.int .i64 kd] :: [.app 5 (encs a0)])
 else (⟨[(0,.row 8 s.2.2.2.length),(1,.fn g1 [] [.ptr 1 0,.ptr 6 0]),(2,.fn g2 [] [.ptr 1 0,.ptr 5 0])],[]⟩,curE s.2.2.1 :: .blk [.ptr 0 0] :: .blk [.ptr 0 0] :: .blk [.str x] :: .blk [.bool s.1] :: .blk [.fn 104 [] [.ptr 4 0,.ptr 2 0,.ptr 3 0]] :: .blk [.int .i64 kd] :: .dead :: [.app 5 (encs s.2.2.2)])
theorem q56 {one:K->R3} {more:MF} {g1 g2:FuncId} {x:List UInt8} {kd:Int} {n:Nat} (ho:Goes one) (hm:MonM more)
 (h1:∀ b c,c.good->rest c≤n->VCalls Tryz.prog g1 [curE c,.blk [.ptr 0 0],.blk [.ptr 0 0],.blk [.str x],.blk [.bool b],.blk [.fn 104 [] [.ptr 4 0,.ptr 2 0,.ptr 3 0]],.blk [.int .i64 kd]] [.ptr 1 0,.ptr 6 0] fun H' o=>H' = (frB x kd b (one c).1)∧o = .val (resB (one c).2))
 (h2:∀ b c,c.good->rest c≤n->VCalls Tryz.prog g2 [curE c,.blk [.ptr 0 0],.blk [.ptr 0 0],.blk [.str x],.blk [.bool b],.blk [.fn 104 [] [.ptr 4 0,.ptr 2 0,.ptr 3 0]],.blk [.int .i64 kd]] [.ptr 1 0,.ptr 5 0] fun H' o=>H' = (frB x kd (more b c).1 (more b c).2.1)∧o = .val (.bool (more b c).2.2))
 (b0:Bool) (c0:K) (a0:List N) (hg:c0.good) (hr:rest c0≤n) (hl:a0.length + rest c0≤1048578):RovB one more g1 g2 x kd b0 c0 a0:=by
 unfold RovB
 obtain ⟨kk,hk1,hk2,hk0⟩:∃ k:Nat,((rowS one more b0 c0 a0).2.2.1 = a0->k = 8)∧((rowS one more b0 c0 a0).2.2.1≠a0->k = 9)∧8≤k:=by
  by_cases h:(rowS one more b0 c0 a0).2.2.1 = a0
  ·exact ⟨8,fun _=>rfl,fun g=>absurd h g,Nat.le_refl _⟩
  ·exact ⟨9,fun g=>absurd g h,fun _=>rfl,Nat.le_succ _⟩
 refine qdd c0fq kk (by simpa using hk0) (by simp) ?_
 generalize htg:rowS one more b0 c0 a0 = tg at hk1 hk2 ⊢
 unfold rowS at htg
 repeat' (first | refine vs_ ?_ | ((first | refine vr_ ?_ | (refine cs_ ?_ ?_<;>intro hc) | refine cj_ ?_ | fail)<;>(try refine ev_ ?_)) | with_reducible exact ti_)
 refine qcc (S:=Bool×Nat×K×List N) (fun s=>s.2.2.1.good∧rest s.2.2.1≤n∧rowF one more s.2.1 s.1 s.2.2.1 s.2.2.2 = tg∧rest s.2.2.1 < s.2.1∧s.2.2.2.length + rest s.2.2.1≤1048578∧a0.length≤s.2.2.2.length∧(s.2.2.2.length = a0.length->s.2.2.2 = a0)) (qun g1 g2 x kd a0) (fun s=>rest s.2.2.1) ?_ ?_
 ·refine qbl (b0,rest c0 + 1,c0,a0) [0,1,2,3,4,5,6,7] ⟨hg,hr,htg,Nat.lt_succ_self _,hl,Nat.le_refl _,fun _=>rfl⟩ rfl (by simp) ?_ ?_ ?_
  all_goals simp only [qun,if_true]
  all_goals (refine ev_ ?_;(try with_reducible exact ti_))
  all_goals first | exact qu _ _ | exact ⟨rfl,rfl⟩ | rfl | (rw [qu,qbf];exact ⟨rfl,rfl⟩)
 ·rintro ⟨fl,fu,d,acc⟩ ⟨i1,i2,i3,i4,i5,i6,i7⟩
  simp only at i6 i7
  simp only at i1 i2 i3 i4 i5
  obtain ⟨fu,rfl⟩:∃ k,fu = k + 1:=⟨fu - 1,by omega⟩
  rw [rowF] at i3
  have hcap:qec (acc.length + 1) 64:=capN (by omega)
  have hmore:=h2 fl d i1 i2
  have g1:=(hm fl d).1 i1
  have r1:=(hm fl d).2.1
  have hone:=h1 (more fl d).1 (more fl d).2.1 g1 (by omega)
  have g2:=(ho.m (more fl d).2.1).1 g1
  have r2:=(ho.m (more fl d).2.1).2.1
  have hlt:=ho.l (more fl d).2.1
  unfold qun
  generalize more fl d = M at *
  obtain ⟨fl',d',ans⟩:=M
  simp only at hmore g1 r1 hone g2 r2 hlt i3
  generalize one d' = r at *
  obtain ⟨e,y,ok⟩:=r
  simp only at hone g2 r2 hlt i3
  have hneA:¬ acc.length + 1 = a0.length:=by omega
  have hlen:(acc ++ [y]).length = acc.length + 1:=by simp
  by_cases h0:acc = a0
  ·have h0l:acc.length = a0.length:=by rw [h0]
   simp only [if_pos h0l]
   cases ans with
   | false =>
     rw [if_neg (by simp)] at i3
     subst i3
     obtain rfl:=hk1 h0
     repeat' (first | refine vs_ ?_ | ((first | refine vr_ ?_ | refine qhf hmore ?_ | (refine cs_ ?_ ?_<;>intro hc) | refine cj_ ?_ | fail)<;>(try refine ev_ ?_)) | with_reducible exact ti_)
     all_goals exact ⟨fun _=>by first | trivial | exact ⟨rfl,rfl⟩,fun g=>absurd h0 g⟩
   | true =>
     rw [if_pos rfl] at i3
     cases ok with
     | false =>
       rw [if_neg (by simp)] at i3
       subst i3
       obtain rfl:=hk1 h0
       repeat' (first | refine vs_ ?_ | ((first | refine vr_ ?_ | refine qhf hmore ?_ | refine qnq hone ?_ | (refine cs_ ?_ ?_<;>intro hc) | refine cj_ ?_ | fail)<;>(try refine ev_ ?_)) | with_reducible exact ti_)
       all_goals exact ⟨fun _=>by first | trivial | exact ⟨rfl,rfl⟩,fun g=>absurd h0 g⟩
     | true =>
       have hlt:=hlt rfl
       rw [if_pos rfl] at i3
       subst h0
       repeat' (first | refine vs_ ?_ | ((first | refine vr_ ?_ | refine qhf hmore ?_ | refine qnq hone ?_ | (refine cs_ ?_ ?_<;>intro hc) | refine cj_ ?_ | fail)<;>(try refine ev_ ?_)) | with_reducible exact ti_)
       refine qbl (fl',fu,e,acc ++ [y]) [0,1,2,3,4,5,6,7,9] ⟨⟨g2,by simp only;omega,i3,by simp only;omega,by simp only [hlen];omega,by simp only [hlen];omega,fun h=>by simp only [hlen] at h;omega⟩,by simp only;omega⟩ rfl (by simp) ?_ ?_ ?_
       all_goals simp only [qun,hlen,if_neg hneA,← qh]
       all_goals (refine ev_ ?_;(try with_reducible exact ti_))
       all_goals first | (rw [qh];exact qu _ _) | exact ⟨rfl,rfl⟩ | rfl | (rw [qh,qu,qbf];exact ⟨rfl,rfl⟩)
  ·have h0l:¬ acc.length = a0.length:=fun h=>h0 (i7 h)
   simp only [if_neg h0l]
   cases ans with
   | false =>
     rw [if_neg (by simp)] at i3
     subst i3
     obtain rfl:=hk2 h0
     repeat' (first | refine vs_ ?_ | ((first | refine vr_ ?_ | refine qhf hmore ?_ | (refine cs_ ?_ ?_<;>intro hc) | refine cj_ ?_ | fail)<;>(try refine ev_ ?_)) | with_reducible exact ti_)
     all_goals exact ⟨fun g=>absurd g h0,fun _=>by first | trivial | exact ⟨rfl,rfl⟩⟩
   | true =>
     rw [if_pos rfl] at i3
     cases ok with
     | false =>
       rw [if_neg (by simp)] at i3
       subst i3
       obtain rfl:=hk2 h0
       repeat' (first | refine vs_ ?_ | ((first | refine vr_ ?_ | refine qhf hmore ?_ | refine qnq hone ?_ | (refine cs_ ?_ ?_<;>intro hc) | refine cj_ ?_ | fail)<;>(try refine ev_ ?_)) | with_reducible exact ti_)
       all_goals exact ⟨fun g=>absurd g h0,fun _=>by first | trivial | exact ⟨rfl,rfl⟩⟩
     | true =>
       have hlt:=hlt rfl
       rw [if_pos rfl] at i3
       repeat' (first | refine vs_ ?_ | ((first | refine vr_ ?_ | refine qhf hmore ?_ | refine qnq hone ?_ | (refine cs_ ?_ ?_<;>intro hc) | refine cj_ ?_ | fail)<;>(try refine ev_ ?_)) | with_reducible exact ti_)
       refine qbl (fl',fu,e,acc ++ [y]) [0,1,2,3,4,5,6,7,10] ⟨⟨g2,by simp only;omega,i3,by simp only;omega,by simp only [hlen];omega,by simp only [hlen];omega,fun h=>by simp only [hlen] at h;omega⟩,by simp only;omega⟩ rfl (by simp) ?_ ?_ ?_
       all_goals simp only [qun,hlen,if_neg hneA,← qh]
       all_goals (refine ev_ ?_;(try with_reducible exact ti_))
       all_goals first | (rw [qh];exact qu _ _) | exact ⟨rfl,rfl⟩ | rfl | (rw [qh,qu,qbf];exact ⟨rfl,rfl⟩)

set_option maxRecDepth 4000

theorem qm5 (σ:Nat->Nat) (i o:Nat):(Ent.blk [.ptr i o]).ren σ = .blk [.ptr (σ i) o]:=rfl
theorem qpf (σ:Nat->Nat) (x:List UInt8):(Ent.blk [.str x]).ren σ = .blk [.str x]:=rfl
theorem qin (σ:Nat->Nat) (b:Bool):(Ent.blk [.bool b]).ren σ = .blk [.bool b]:=rfl
theorem qcbb (σ:Nat->Nat) (n:Int):(Ent.blk [.int .i64 n]).ren σ = .blk [.int .i64 n]:=rfl
theorem qn6 (σ:Nat->Nat) (l:List N):(Ent.app 5 (encs l)).ren σ = .app 5 (encs l):=by rw [Ent.ren,qbf]
theorem e_fn (σ:Nat->Nat) (f:FuncId) (i j k:Nat):(Ent.blk [.fn f [] [.ptr i 0,.ptr j 0,.ptr k 0]]).ren σ = .blk [.fn f [] [.ptr (σ i) 0,.ptr (σ j) 0,.ptr (σ k) 0]]:=rfl
theorem qbcw (c:K) (x:List UInt8):VCalls Tryz.prog 61 [curE c] [.ptr 0 0,.str x] fun H' o=>H' = [curE c,.blk [.ptr 0 0],.blk [.str x],.blk [.bool false]]∧o = .val (.fn 104 [] [.ptr 3 0,.ptr 1 0,.ptr 2 0]):=by
 refine qdd c0fi 4 (by simp) (by simp) ?_
 repeat' (first | refine vs_ ?_ | ((first | refine vr_ ?_ | (refine cs_ ?_ ?_<;>intro hc) | refine cj_ ?_ | fail)<;>(try refine ev_ ?_)) | with_reducible exact ti_)
 all_goals exact ⟨rfl,rfl⟩
theorem qd5 {c:K} {x:List UInt8} {L:List Ent} {Q:List Ent->VO->Prop} (hq:Q (curE c :: (L ++ [.blk [.ptr 0 0],.blk [.str x],.blk [.bool false]])) (.val (.fn 104 [] [.ptr (L.length + 3) 0,.ptr (L.length + 1) 0,.ptr (L.length + 2) 0]))) :
 VApp Tryz.prog (curE c :: L) (.fn 61 [] []) [.ptr 0 0,.str x] Q :=
 qbr (first:=[]) (caps:=[]) (by
  simp only [List.nil_append,List.append_nil]
  refine qb8 (H0:=[curE c]) (args0:=[.ptr 0 0,.str x]) [0] (qbcw c x) (by simp) ?_ rfl rfl ?_
  ·(refine ev_ ?_;(try with_reducible exact ti_))
   omega
  rintro H1 o ⟨rfl,rfl⟩
  have h3:∀ k,L.length + 1 + k = L.length + (k + 1):=fun k=>by omega
  simpa [qez,qbg,sg',qm5,qpf,qin,AV.ren,AV.rens,VO.ren,qcv,Nat.add_assoc] using hq)
theorem qwq (x:List UInt8) (b:Bool) (c:K) (hg:c.good):VCalls Tryz.prog 104 [curE c,.blk [.ptr 0 0],.blk [.str x],.blk [.bool b]] [.ptr 3 0,.ptr 1 0,.ptr 2 0] fun H' o=>H' = [curE (qbo x b c).2.1,.blk [.ptr 0 0],.blk [.str x],.blk [.bool (qbo x b c).1]]∧o = .val (.bool (qbo x b c).2.2):=by
 refine qj c0fj 4 (by simp) (by simp) ?_
 unfold qbo
 cases b with
 | false =>
   repeat' (first | refine vs_ ?_ | ((first | refine vr_ ?_ | (refine cs_ ?_ ?_<;>intro hc) | refine cj_ ?_ | fail)<;>(try refine ev_ ?_)) | with_reducible exact ti_)
   all_goals exact ⟨rfl,rfl⟩
 | true =>
   repeat' (first | refine vs_ ?_ | ((first | refine vr_ ?_ | refine qdp hg.ok ?_ | (refine cs_ ?_ ?_<;>intro hc) | refine cj_ ?_ | fail)<;>(try refine ev_ ?_)) | with_reducible exact ti_)
   all_goals exact ⟨rfl,rfl⟩
theorem qg5 {x:List UInt8} {b:Bool} {c:K} {B:Ent} {L:List Ent} {Q:List Ent->VO->Prop} (hg:c.good) (hq:Q (curE (qbo x b c).2.1 :: B :: .blk [.ptr 0 0] :: .blk [.str x] :: .blk [.bool (qbo x b c).1] :: L) (.val (.bool (qbo x b c).2.2))) :
 VApp Tryz.prog (curE c :: B :: .blk [.ptr 0 0] :: .blk [.str x] :: .blk [.bool b] :: L) (.fn 104 [] [.ptr 4 0,.ptr 2 0,.ptr 3 0]) [] Q :=
 qbr (first:=[]) (caps:=[.ptr 4 0,.ptr 2 0,.ptr 3 0]) (by
  simp only [List.nil_append]
  refine qb8 (H0:=[curE c,.blk [.ptr 0 0],.blk [.str x],.blk [.bool b]]) (args0:=[.ptr 3 0,.ptr 1 0,.ptr 2 0]) [0,2,3,4] (qwq x b c hg) (by simp) ?_ rfl rfl ?_
  ·(refine ev_ ?_;(try with_reducible exact ti_))
   omega
  rintro H1 o ⟨rfl,rfl⟩
  simpa [qez,qbg,sg',qm5,qpf,qin,AV.ren,AV.rens,VO.ren,qcv] using hq)
theorem qox (c:K) (hg:c.good):qbt Tryz.prog 165 (curE c) (curE (qhs c).1) [.ptr 0 0] (resP (qhs c).2):=qhg (qcx _) (qqs (rest c + 2)) c hg (by omega)
theorem qwr (c:K) (hg:c.good):qbt Tryz.prog 108 (curE c) (curE (qj8 c).1) [.ptr 0 0] (resP (qj8 c).2):=qrq (qbhy (rest c + 2)) c hg (by omega)
theorem qbzd (c:K):qbt Tryz.prog 201 (curE c) (curE c) [.ptr 0 0] (.bool (begT c)):=by
 refine qj c0fk 1 (by simp) (by simp) ?_
 repeat' (first | refine vs_ ?_ | ((first | refine vr_ ?_ | refine qbq ?_ | refine a_Is ?_ | (refine cs_ ?_ ?_<;>intro hc) | refine cj_ ?_ | fail)<;>(try refine ev_ ?_)) | with_reducible exact ti_)
 all_goals (unfold begT;simp_all)
theorem qb8t {c:K} {L:List Ent} {Q:List Ent->VO->Prop} (hq:Q (curE c :: L) (.val (.bool (begT c)))):VApp Tryz.prog (curE c :: L) (.fn 201 [] []) [.ptr 0 0] Q:=qbu (qbzd c) (qp _ _) (qp _ _) rfl rfl fun _=>hq
theorem qblw (c:K) (hg:c.good):VCalls Tryz.prog 199 [curE c,.blk [.ptr 0 0]] [.ptr 1 0] fun H' o=>H' = frA false (qed c).1∧o = .val (resB (qed c).2):=by
 refine qj c0fl 2 (by simp) (by simp) ?_
 unfold qed ofO frA
 repeat' (first | refine vs_ ?_ | ((first | refine vr_ ?_ | refine qb7 (qox c hg) rfl ?_ | (refine cs_ ?_ ?_<;>intro hc) | refine cj_ ?_ | fail)<;>(try refine ev_ ?_)) | with_reducible exact ti_)
 all_goals exact ⟨rfl,rfl⟩
theorem qbqu (c:K):VCalls Tryz.prog 200 [curE c,.blk [.ptr 0 0]] [.ptr 1 0] fun H' o=>H' = frA false c∧o = .val (.bool (begT c)):=by
 refine qj c0fm 2 (by simp) (by simp) ?_
 unfold frA
 repeat' (first | refine vs_ ?_ | ((first | refine vr_ ?_ | refine qb8t ?_ | (refine cs_ ?_ ?_<;>intro hc) | refine cj_ ?_ | fail)<;>(try refine ev_ ?_)) | with_reducible exact ti_)
 all_goals exact ⟨rfl,rfl⟩
theorem qba2 (c:K) (hg:c.good):VCalls Tryz.prog 164 [curE c,.blk [.ptr 0 0]] [.ptr 1 0] fun H' o=>H' = frA false (qed c).1∧o = .val (resB (qed c).2):=by
 refine qj c0fn 2 (by simp) (by simp) ?_
 unfold qed ofO frA
 repeat' (first | refine vs_ ?_ | ((first | refine vr_ ?_ | refine qb7 (qox c hg) rfl ?_ | (refine cs_ ?_ ?_<;>intro hc) | refine cj_ ?_ | fail)<;>(try refine ev_ ?_)) | with_reducible exact ti_)
 all_goals exact ⟨rfl,rfl⟩
theorem qbe3 (c:K):VCalls Tryz.prog 166 [curE c,.blk [.ptr 0 0]] [.ptr 1 0] fun H' o=>H' = frA false c∧o = .val (.bool (qig c)):=by
 refine qj c0fo 2 (by simp) (by simp) ?_
 unfold qig frA
 repeat' (first | refine vs_ ?_ | ((first | refine vr_ ?_ | refine qbq ?_ | (refine cs_ ?_ ?_<;>intro hc) | refine cj_ ?_ | fail)<;>(try refine ev_ ?_)) | with_reducible exact ti_)
 all_goals exact ⟨rfl,rfl⟩
theorem qbcr (c:K) (hg:c.good):RowA qed (qgi begT) 199 200 false c:=qvy qd3 (monA _) (fun b c g _=>qblw c g) (fun b c g _=>qbqu c) false c hg (Nat.le_refl _)
theorem q7n (c:K) (hg:c.good):RowA qed (qgi qig) 164 166 false c:=qvy qd3 (monA _) (fun b c g _=>qba2 c g) (fun b c g _=>qbe3 c) false c hg (Nat.le_refl _)
section
variable {one:K->R3} {more:MF} {g1 g2:FuncId} {b:Bool} {c:K}
theorem que (h:RowA one more g1 g2 b c) (h0:(rowS one more b c []).2.2.1 = []) {L:List Ent} {Q:List Ent->VO->Prop} (hq:Q (curE (rowS one more b c []).2.1 :: .blk [.ptr 0 0] :: L) (.val (.tup [.nils,.bool (rowS one more b c []).2.2.2]))) :
 VApp Tryz.prog (curE c :: .blk [.ptr 0 0] :: L) (.fn 62 [] []) [.nils,.fn g1 [] [.ptr 1 0],.fn g2 [] [.ptr 1 0]] Q :=
 qbr (first:=[]) (caps:=[]) (by
  simp only [List.nil_append,List.append_nil]
  refine qc1 (H0:=[curE c,.blk [.ptr 0 0]]) (L:=L) h (qjf c) rfl ?_
  rintro H1 o ⟨rfl,rfl⟩
  rw [h0]
  exact ⟨rfl,qjf _,rfl,hq⟩)
theorem qu4 (h:RowA one more g1 g2 b c) (h0:(rowS one more b c []).2.2.1≠[]) {L:List Ent} {Q:List Ent->VO->Prop} (hq:Q (curE (rowS one more b c []).2.1 :: .blk [.ptr 0 0] :: (L ++ [.app 5 (encs (rowS one more b c []).2.2.1)])) (.val (.tup [.row (L.length + 2) (rowS one more b c []).2.2.1.length,.bool (rowS one more b c []).2.2.2]))) :
 VApp Tryz.prog (curE c :: .blk [.ptr 0 0] :: L) (.fn 62 [] []) [.nils,.fn g1 [] [.ptr 1 0],.fn g2 [] [.ptr 1 0]] Q :=
 qbr (first:=[]) (caps:=[]) (by
  simp only [List.nil_append,List.append_nil]
  refine qb8 (H0:=[curE c,.blk [.ptr 0 0]]) (args0:=[.nils,.fn g1 [] [.ptr 1 0],.fn g2 [] [.ptr 1 0]]) [0,1] h (by simp) ?_ rfl rfl ?_
  ·(refine ev_ ?_;(try with_reducible exact ti_))
   omega
  rintro H1 o ⟨rfl,rfl⟩
  rw [qbh (q9 h0),qbi (q9 h0),q8]
  simpa [qez,qbg,sg',qm5,qn6,AV.ren,AV.rens,VO.ren,qcv] using hq)
end
theorem qsc (t:T) (l:List N):AV.agg [.int .i64 34,.int .i64 t.pos,.int .i64 0,.str t.text,.sl 5 (encs l)] = enc (conN t l):=by simp only [conN,enc]
theorem qsv (t:T):AV.agg [.int .i64 34,.int .i64 t.pos,.int .i64 0,.str t.text,.sl 5 []] = enc (conN t []):=qsc t []
theorem qb85 (c:K) (hg:c.good):qbt Tryz.prog 168 (curE c) (curE (conK c).1) [.ptr 0 0] (resB (conK c).2):=by
 have g1:(kindK c 2).1.good:=(qch c 2).1 hg
 have hR:=qbcr (kindK c 2).1 g1
 have h0:=@que _ _ _ _ _ _ hR
 have h1:=@qu4 _ _ _ _ _ _ hR
 clear hR
 refine qj c0fp 1 (by simp) (by simp) ?_
 unfold conK
 generalize rowS qed (qgi begT) false (kindK c 2).1 [] = r at *
 by_cases hk:(kindK c 2).2 = true
 ·rw [if_pos hk]
  by_cases hl:r.2.2.1 = []
  ·repeat' (first | refine vs_ ?_ | ((first | refine vrr_ ?_ | fail)<;>(try simp only [hk,go_sem,↓reduceIte])) | ((first | (refine cs_ ?_ ?_<;>intro hc) | refine cj_ ?_ | fail | refine qcz hg.ok ?_ | refine h0 hl ?_)<;>(try refine ev_ ?_)) | with_reducible exact ti_)
   all_goals first | (rw [hl,qsv];done) | (rw [hl,qsv];rfl) | (rw [hl,qsv];exact ⟨rfl,rfl⟩)
  ·repeat' (first | refine vs_ ?_ | ((first | refine vrr_ ?_ | fail)<;>(try simp only [hk,go_sem,↓reduceIte])) | ((first | (refine cs_ ?_ ?_<;>intro hc) | refine cj_ ?_ | fail | refine qcz hg.ok ?_ | refine h1 hl ?_)<;>(try refine ev_ ?_)) | with_reducible exact ti_)
   all_goals first | (rw [qsc];done) | (rw [qsc];rfl) | (rw [qsc];exact ⟨rfl,rfl⟩)
 ·rw [if_neg hk]
  repeat' (first | refine vs_ ?_ | ((first | refine vr_ ?_ | fail)<;>(try simp only [hk,go_sem,↓reduceIte])) | ((first | (refine cs_ ?_ ?_<;>intro hc) | refine cj_ ?_ | fail | refine qcz hg.ok ?_)<;>(try refine ev_ ?_)) | with_reducible exact ti_)
  all_goals first | (rw [qdf];done) | (rw [qdf];rfl) | (rw [qdf];exact ⟨rfl,rfl⟩)
set_option maxRecDepth 4000

theorem qcdn {c:K} {L:List Ent} {Q:List Ent->VO->Prop} (hg:c.good) (hq:Q (curE (conK c).1 :: L) (.val (resB (conK c).2))):VApp Tryz.prog (curE c :: L) (.fn 168 [] []) [.ptr 0 0] Q:=qjr (qb85 c hg) rfl hq
theorem qys (x:List UInt8) (b:Bool) (c:K) (hg:c.good):VCalls Tryz.prog 167 [curE c,.blk [.ptr 0 0],.blk [.ptr 0 0],.blk [.str x],.blk [.bool b]] [.ptr 1 0] fun H' o=>H' = frD x b (conK c).1∧o = .val (resB (conK c).2):=by
 refine qj c0fg 5 (by simp) (by simp) ?_
 unfold frD
 repeat' (first | refine vs_ ?_ | ((first | refine vr_ ?_ | refine qcdn hg ?_ | (refine cs_ ?_ ?_<;>intro hc) | refine cj_ ?_ | fail)<;>(try refine ev_ ?_)) | with_reducible exact ti_)
 all_goals exact ⟨rfl,rfl⟩
theorem qrl (x:List UInt8) (b:Bool) (c:K) (hg:c.good):VCalls Tryz.prog 104 [curE c,.blk [.ptr 0 0],.blk [.ptr 0 0],.blk [.str x],.blk [.bool b]] [.ptr 4 0,.ptr 2 0,.ptr 3 0] fun H' o=>H' = frD x (qbo x b c).1 (qbo x b c).2.1∧o = .val (.bool (qbo x b c).2.2):=by
 refine qb8 (H0:=[curE c,.blk [.ptr 0 0],.blk [.str x],.blk [.bool b]]) (args0:=[.ptr 3 0,.ptr 1 0,.ptr 2 0]) [0,2,3,4] (qwq x b c hg) (by simp) ?_ rfl rfl ?_
 ·(refine ev_ ?_;(try with_reducible exact ti_))
 rintro H1 o ⟨rfl,rfl⟩
 simp [frD,qez,qbg,sg',qm5,qpf,qin,AV.ren,AV.rens,VO.ren,qcv]
theorem q7w (c:K) (hg:c.good):RowD conK (qbo [124]) 167 104 [124] false c :=
 q7d qnw (monF _) (fun b c g _=>qys _ b c g) (fun b c g _=>qrl _ b c g) false c hg (Nat.le_refl _)
theorem q7q (c:K) (a0:List N) (hg:c.good) (hl:a0.length + rest c≤1048578):RovD conK (qbo [124]) 167 104 [124] false c a0 :=
 q4x qnw (monF _) (fun b c g _=>qys _ b c g) (fun b c g _=>qrl _ b c g) false c a0 hg (Nat.le_refl _) hl
section
variable {one:K->R3} {more:MF} {g:FuncId} {x:List UInt8} {b:Bool} {c:K} {e2 e3 e4:Ent} {Q:List Ent->VO->Prop}
theorem q77 (h:RowD one more g 104 x b c) (h0:(rowS one more b c []).2.2.1 = []) (hq:Q [curE (rowS one more b c []).2.1,.blk [.ptr 0 0],e2,e3,e4,.blk [.ptr 0 0],.blk [.str x],.blk [.bool (rowS one more b c []).1]] (.val (.tup [.nils,.bool (rowS one more b c []).2.2.2]))) :
 VApp Tryz.prog [curE c,.blk [.ptr 0 0],e2,e3,e4,.blk [.ptr 0 0],.blk [.str x],.blk [.bool b]] (.fn 62 [] []) [.nils,.fn g [] [.ptr 1 0],.fn 104 [] [.ptr 7 0,.ptr 5 0,.ptr 6 0]] Q :=
 qbr (first:=[]) (caps:=[]) (by
  simp only [List.nil_append,List.append_nil]
  refine qb8 (H0:=[curE c,.blk [.ptr 0 0],.blk [.ptr 0 0],.blk [.str x],.blk [.bool b]]) (args0:=[.nils,.fn g [] [.ptr 1 0],.fn 104 [] [.ptr 4 0,.ptr 2 0,.ptr 3 0]]) [0,1,5,6,7] h (by simp) ?_ rfl rfl ?_
  ·(refine ev_ ?_;(try with_reducible exact ti_))
  rintro H1 o ⟨rfl,rfl⟩
  rw [h0]
  simpa [encs,qbc,qbb,qez,qbg,sg',qm5,qpf,qin,AV.ren,AV.rens,VO.ren,qcv] using hq)
theorem q47 (h:RowD one more g 104 x b c) (h0:(rowS one more b c []).2.2.1≠[]) (hq:Q [curE (rowS one more b c []).2.1,.blk [.ptr 0 0],e2,e3,e4,.blk [.ptr 0 0],.blk [.str x],.blk [.bool (rowS one more b c []).1],.app 5 (encs (rowS one more b c []).2.2.1)] (.val (.tup [.row 8 (rowS one more b c []).2.2.1.length,.bool (rowS one more b c []).2.2.2]))) :
 VApp Tryz.prog [curE c,.blk [.ptr 0 0],e2,e3,e4,.blk [.ptr 0 0],.blk [.str x],.blk [.bool b]] (.fn 62 [] []) [.nils,.fn g [] [.ptr 1 0],.fn 104 [] [.ptr 7 0,.ptr 5 0,.ptr 6 0]] Q :=
 qbr (first:=[]) (caps:=[]) (by
  simp only [List.nil_append,List.append_nil]
  refine qb8 (H0:=[curE c,.blk [.ptr 0 0],.blk [.ptr 0 0],.blk [.str x],.blk [.bool b]]) (args0:=[.nils,.fn g [] [.ptr 1 0],.fn 104 [] [.ptr 4 0,.ptr 2 0,.ptr 3 0]]) [0,1,5,6,7] h (by simp) ?_ rfl rfl ?_
  ·(refine ev_ ?_;(try with_reducible exact ti_))
  rintro H1 o ⟨rfl,rfl⟩
  rw [qbh (q9 h0),qbi (q9 h0),q8]
  simpa [qez,qbg,sg',qm5,qpf,qin,qn6,AV.ren,AV.rens,VO.ren,qcv] using hq)
variable {a0:List N}
theorem q73 (h:RovD one more g 104 x b c a0) (h0:(rowS one more b c a0).2.2.1 = a0) (hq:Q [curE (rowS one more b c a0).2.1,.blk [.ptr 0 0],e2,e3,e4,.app 5 (encs a0),.blk [.ptr 0 0],.blk [.str x],.blk [.bool (rowS one more b c a0).1]] (.val (.tup [.row 5 a0.length,.bool (rowS one more b c a0).2.2.2]))) :
 VApp Tryz.prog [curE c,.blk [.ptr 0 0],e2,e3,e4,.app 5 (encs a0),.blk [.ptr 0 0],.blk [.str x],.blk [.bool b]] (.fn 62 [] []) [.row 5 a0.length,.fn g [] [.ptr 1 0],.fn 104 [] [.ptr 8 0,.ptr 6 0,.ptr 7 0]] Q :=
 qbr (first:=[]) (caps:=[]) (by
  simp only [List.nil_append,List.append_nil]
  refine qb8 (H0:=[curE c,.blk [.ptr 0 0],.blk [.ptr 0 0],.blk [.str x],.blk [.bool b],.app 5 (encs a0)]) (args0:=[.row 5 a0.length,.fn g [] [.ptr 1 0],.fn 104 [] [.ptr 4 0,.ptr 2 0,.ptr 3 0]]) [0,1,6,7,8,5] h (by simp) ?_ rfl rfl ?_
  ·(refine ev_ ?_;(try with_reducible exact ti_))
   all_goals (rw [qbf,qu];exact ⟨rfl,rfl⟩)
  intro H1 o hh
  obtain ⟨rfl,rfl⟩:=hh.1 h0
  simpa [qez,qbg,sg',qm5,qpf,qin,qn6,AV.ren,AV.rens,VO.ren,qcv] using hq)
theorem q4d (h:RovD one more g 104 x b c a0) (h0:(rowS one more b c a0).2.2.1≠a0) (hq:Q [curE (rowS one more b c a0).2.1,.blk [.ptr 0 0],e2,e3,e4,.dead,.blk [.ptr 0 0],.blk [.str x],.blk [.bool (rowS one more b c a0).1],.app 5 (encs (rowS one more b c a0).2.2.1)] (.val (.tup [.row 9 (rowS one more b c a0).2.2.1.length,.bool (rowS one more b c a0).2.2.2]))) :
 VApp Tryz.prog [curE c,.blk [.ptr 0 0],e2,e3,e4,.app 5 (encs a0),.blk [.ptr 0 0],.blk [.str x],.blk [.bool b]] (.fn 62 [] []) [.row 5 a0.length,.fn g [] [.ptr 1 0],.fn 104 [] [.ptr 8 0,.ptr 6 0,.ptr 7 0]] Q :=
 qbr (first:=[]) (caps:=[]) (by
  simp only [List.nil_append,List.append_nil]
  refine qb8 (H0:=[curE c,.blk [.ptr 0 0],.blk [.ptr 0 0],.blk [.str x],.blk [.bool b],.app 5 (encs a0)]) (args0:=[.row 5 a0.length,.fn g [] [.ptr 1 0],.fn 104 [] [.ptr 4 0,.ptr 2 0,.ptr 3 0]]) [0,1,6,7,8,5] h (by simp) ?_ rfl rfl ?_
  ·(refine ev_ ?_;(try with_reducible exact ti_))
   all_goals (rw [qbf,qu];exact ⟨rfl,rfl⟩)
  intro H1 o hh
  obtain ⟨rfl,rfl⟩:=hh.2 h0
  have hd:∀ σ:Nat->Nat,Ent.dead.ren σ = .dead:=fun σ=>rfl
  simpa [qez,qbg,sg',qm5,qpf,qin,qn6,hd,AV.ren,AV.rens,VO.ren,qcv] using hq)
end
theorem qnd (p:Int) (t:T) (v l:List N):AV.agg [.int .i64 33,.int .i64 p,.int .i64 v.length,.str t.text,.sl 5 (encs l)] = enc (q12 p t v l):=by simp only [q12,enc]
theorem q43 (p:Int) (t:T) (l:List N):AV.agg [.int .i64 33,.int .i64 p,.int .i64 0,.str t.text,.sl 5 (encs l)] = enc (q12 p t [] l):=qnd p t [] l
theorem q1p (p:Int) (t:T):AV.agg [.int .i64 33,.int .i64 p,.int .i64 0,.str t.text,.sl 5 []] = enc (q12 p t [] []):=qnd p t [] []
theorem qbua (p:Int) (c:K) (hg:c.good):qbt Tryz.prog 106 (curE c) (curE (qo7 p c).1) [.ptr 0 0,posZ p] (resB (qo7 p c).2):=by
 have g1:(kindK c 2).1.good:=(qch c 2).1 hg
 have hR:=q7n (kindK c 2).1 g1
 have h0:=@que _ _ _ _ _ _ hR
 have h1:=@qu4 _ _ _ _ _ _ hR
 have g2:=(qfw qd3 (monA qig) false (kindK c 2).1 []).1 g1
 have hlen:=qbch qd3 (monA qig) false (kindK c 2).1 []
 have hle:=(qfw qd3 (monA qig) false (kindK c 2).1 []).2.1
 have h9:=g1.rest
 clear hR
 refine qj c0fh 1 (by simp) (by simp [posZ]) ?_
 unfold qo7 q9p posZ
 by_cases hk:(kindK c 2).2 = true
 ·rw [if_pos hk]
  generalize rowS qed (qgi qig) false (kindK c 2).1 [] = r at *
  obtain ⟨fl,d,v,ok⟩:=r
  simp only at h0 h1 g2 hlen hle ⊢
  simp only [List.length_nil] at hlen
  have hle2:=(ql d [61]).2.1
  have hcap:qec (v.length + 1) 64:=capN (by unfold rest at hlen;omega)
  have hvl:v.length≤maxLen:=by unfold maxLen;unfold rest at hlen;omega
  have g3:(qr d [61]).1.good:=(ql _ _).1 g2
  have hR:=q7w (qr d [61]).1 g3
  have hRv:=q7q (qr d [61]).1 v g3 (by unfold rest at *;omega)
  unfold q1d
  by_cases hw:(qr d [61]).2 = true
  ·rw [if_pos hw]
   by_cases hl:v = []
   ·subst hl
    clear hRv
    have i0:=fun e2 e3 e4 Q=>@q77 conK (qbo [124]) 167 [124] false (qr d [61]).1 e2 e3 e4 Q hR
    have i1:=fun e2 e3 e4 Q=>@q47 conK (qbo [124]) 167 [124] false (qr d [61]).1 e2 e3 e4 Q hR
    clear hR
    generalize rowS conK (qbo [124]) false (qr d [61]).1 [] = r2 at *
    by_cases hq:r2.2.2.1 = []
    ·repeat' (first | refine vs_ ?_ | ((first | refine vrr_ ?_ | fail)<;>(try simp only [hk,hw,go_sem,↓reduceIte])) | ((first | (refine cs_ ?_ ?_<;>intro hc) | refine cj_ ?_ | fail | refine qcz hg.ok ?_ | refine h0 rfl ?_ | refine qbz g2.ok ?_ | refine qd5 ?_ | refine i0 _ _ _ _ hq ?_)<;>(try refine ev_ ?_)) | with_reducible exact ti_)
     all_goals (try rw [hq,q1p])
     all_goals (try exact ⟨rfl,rfl⟩)
    ·repeat' (first | refine vs_ ?_ | ((first | refine vrr_ ?_ | fail)<;>(try simp only [hk,hw,go_sem,↓reduceIte])) | ((first | (refine cs_ ?_ ?_<;>intro hc) | refine cj_ ?_ | fail | refine qcz hg.ok ?_ | refine h0 rfl ?_ | refine qbz g2.ok ?_ | refine qd5 ?_ | refine i1 _ _ _ _ hq ?_)<;>(try refine ev_ ?_)) | with_reducible exact ti_)
     all_goals (try rw [q43])
     all_goals (try exact ⟨rfl,rfl⟩)
   ·clear hR
    have i0:=fun e2 e3 e4 Q=>@q73 conK (qbo [124]) 167 [124] false (qr d [61]).1 e2 e3 e4 Q v hRv
    have i1:=fun e2 e3 e4 Q=>@q4d conK (qbo [124]) 167 [124] false (qr d [61]).1 e2 e3 e4 Q v hRv
    clear hRv
    generalize rowS conK (qbo [124]) false (qr d [61]).1 v = r2 at *
    by_cases hq:r2.2.2.1 = v
    ·repeat' (first | refine vs_ ?_ | ((first | refine vrr_ ?_ | fail)<;>(try simp only [hk,hw,go_sem,↓reduceIte])) | ((first | (refine cs_ ?_ ?_<;>intro hc) | refine cj_ ?_ | fail | refine qcz hg.ok ?_ | refine h1 hl ?_ | refine qbz g2.ok ?_ | refine qd5 ?_ | refine i0 _ _ _ _ hq ?_)<;>(try refine ev_ ?_)) | with_reducible exact ti_)
     all_goals (try rw [hq,qnd])
     all_goals (try exact ⟨rfl,rfl⟩)
    ·repeat' (first | refine vs_ ?_ | ((first | refine vrr_ ?_ | fail)<;>(try simp only [hk,hw,go_sem,↓reduceIte])) | ((first | (refine cs_ ?_ ?_<;>intro hc) | refine cj_ ?_ | fail | refine qcz hg.ok ?_ | refine h1 hl ?_ | refine qbz g2.ok ?_ | refine qd5 ?_ | refine i1 _ _ _ _ hq ?_)<;>(try refine ev_ ?_)) | with_reducible exact ti_)
     all_goals (try rw [qnd])
     all_goals (try exact ⟨rfl,rfl⟩)
  ·rw [if_neg hw]
   by_cases hl:v = []
   ·repeat' (first | refine vs_ ?_ | ((first | refine vrr_ ?_ | fail)<;>(try simp only [hk,hw,go_sem,↓reduceIte])) | ((first | (refine cs_ ?_ ?_<;>intro hc) | refine cj_ ?_ | fail | refine qcz hg.ok ?_ | refine h0 hl ?_ | refine qbz g2.ok ?_)<;>(try refine ev_ ?_)) | with_reducible exact ti_)
    all_goals (try rw [qhn])
    all_goals (try exact ⟨rfl,rfl⟩)
   ·repeat' (first | refine vs_ ?_ | ((first | refine vrr_ ?_ | fail)<;>(try simp only [hk,hw,go_sem,↓reduceIte])) | ((first | (refine cs_ ?_ ?_<;>intro hc) | refine cj_ ?_ | fail | refine qcz hg.ok ?_ | refine h1 hl ?_ | refine qbz g2.ok ?_)<;>(try refine ev_ ?_)) | with_reducible exact ti_)
    all_goals (try rw [qhn])
    all_goals (try exact ⟨rfl,rfl⟩)
 ·rw [if_neg hk]
  repeat' (first | refine vs_ ?_ | ((first | refine vr_ ?_ | fail)<;>(try simp only [hk,go_sem,↓reduceIte])) | ((first | (refine cs_ ?_ ?_<;>intro hc) | refine cj_ ?_ | fail | refine qcz hg.ok ?_)<;>(try refine ev_ ?_)) | with_reducible exact ti_)
  all_goals (try rw [qhn])
  all_goals (try exact ⟨rfl,rfl⟩)
set_option maxRecDepth 4000

theorem q88 (kd:Int) (c:K) (hg:c.good):qbt Tryz.prog 203 (curE c) (curE (qbs kd c).1) [.ptr 0 0,.int .i64 kd] (resB (qbs kd c).2):=by
 have hb:=qwr c hg
 refine qj c0fc 1 (by simp) (by simp) ?_
 unfold qbs ofO
 generalize qj8 c = r at *
 obtain ⟨d,o⟩:=r
 cases o with
 | none =>
   repeat' (first | refine vs_ ?_ | ((first | refine vr_ ?_ | fail)<;>(try simp (disch:=first | omega | (simp only [List.length_set,List.length_append,List.length_cons,List.length_nil];done) | (simp only [List.length_set,List.length_append,List.length_cons,List.length_nil];omega)) only [Option.isSome_none,Option.getD_none,go_sem,↓reduceIte])) | ((first | (refine cs_ ?_ ?_<;>intro hc) | refine cj_ ?_ | fail | refine qb7 hb rfl ?_)<;>(try refine ev_ ?_)) | with_reducible exact ti_)
   all_goals first | (rw [qdf];done) | (rw [qdf];rfl) | (rw [qdf];exact ⟨rfl,rfl⟩) | rfl | (simp;done)
 | some n =>
   obtain ⟨k,p,m,t,l⟩:=n
   by_cases hk:k = kd
   ·rw [if_neg (by simp [N.kind,hk])]
    repeat' (first | refine vs_ ?_ | ((first | refine vr_ ?_ | fail)<;>(try simp (disch:=first | omega | (simp only [List.length_set,List.length_append,List.length_cons,List.length_nil];done) | (simp only [List.length_set,List.length_append,List.length_cons,List.length_nil];omega)) only [Option.isSome_some,Option.getD_some,go_sem,↓reduceIte])) | ((first | (refine cs_ ?_ ?_<;>intro hc) | refine cj_ ?_ | fail | refine qb7 hb rfl ?_ | refine qfa ?_)<;>(try refine ev_ ?_)) | with_reducible exact ti_)
    all_goals first | (exfalso;simp_all [N.kind];done) | exact ⟨rfl,rfl⟩
   ·rw [if_pos (by simp [N.kind,hk])]
    repeat' (first | refine vs_ ?_ | ((first | refine vr_ ?_ | fail)<;>(try simp (disch:=first | omega | (simp only [List.length_set,List.length_append,List.length_cons,List.length_nil];done) | (simp only [List.length_set,List.length_append,List.length_cons,List.length_nil];omega)) only [Option.isSome_some,Option.getD_some,go_sem,↓reduceIte])) | ((first | (refine cs_ ?_ ?_<;>intro hc) | refine cj_ ?_ | fail | refine qb7 hb rfl ?_ | refine qfa ?_)<;>(try refine ev_ ?_)) | with_reducible exact ti_)
    all_goals first | (exfalso;simp_all [N.kind];done) | exact ⟨rfl,rfl⟩
theorem qbd9 {kd:Int} {c:K} {L:List Ent} {Q:List Ent->VO->Prop} (hg:c.good) (hq:Q (curE (qbs kd c).1 :: L) (.val (resB (qbs kd c).2))):VApp Tryz.prog (curE c :: L) (.fn 203 [] []) [.ptr 0 0,.int .i64 kd] Q:=qjr (q88 kd c hg) rfl hq
theorem qbe8 (x:List UInt8) (kd:Int) (b:Bool) (c:K) (hg:c.good):VCalls Tryz.prog 202 [curE c,.blk [.ptr 0 0],.blk [.ptr 0 0],.blk [.str x],.blk [.bool b],.blk [.fn 104 [] [.ptr 4 0,.ptr 2 0,.ptr 3 0]],.blk [.int .i64 kd]] [.ptr 1 0,.ptr 6 0] fun H' o=>H' = frB x kd b (qbs kd c).1∧o = .val (resB (qbs kd c).2):=by
 refine qj c0fd 7 (by simp) (by simp) ?_
 unfold frB
 repeat' (first | refine vs_ ?_ | ((first | refine vr_ ?_ | refine qbd9 hg ?_ | (refine cs_ ?_ ?_<;>intro hc) | refine cj_ ?_ | fail)<;>(try refine ev_ ?_)) | with_reducible exact ti_)
 all_goals exact ⟨rfl,rfl⟩
theorem qbdv (kd:Int) (b:Bool) (c:K) (hg:c.good):VCalls Tryz.prog 204 [curE c,.blk [.ptr 0 0],.blk [.ptr 0 0],.blk [.str [59]],.blk [.bool b],.blk [.fn 104 [] [.ptr 4 0,.ptr 2 0,.ptr 3 0]],.blk [.int .i64 kd]] [.ptr 1 0,.ptr 5 0] fun H' o=>H' = frB [59] kd (qd7 b c).1 (qd7 b c).2.1∧o = .val (.bool (qd7 b c).2.2):=by
 refine qj c0fe 7 (by simp) (by simp) ?_
 unfold frB qd7
 by_cases hi:isK c [125] = true
 ·rw [if_pos hi]
  repeat' (first | refine vs_ ?_ | ((first | refine vr_ ?_ | fail)<;>(try simp only [hi,go_sem,↓reduceIte])) | ((first | (refine cs_ ?_ ?_<;>intro hc) | refine cj_ ?_ | fail | refine a_Is ?_ | refine qg5 hg ?_)<;>(try refine ev_ ?_)) | with_reducible exact ti_)
  all_goals first | exact ⟨rfl,rfl⟩ | (exfalso;simp_all;done) | (simp_all;done)
 ·rw [if_neg hi]
  have hi2:isK c [125] = false:=by simpa using hi
  by_cases ha:(qbo [59] b c).2.2 = true
  ·repeat' (first | refine vs_ ?_ | ((first | refine vr_ ?_ | fail)<;>(try simp only [hi2,ha,go_sem,↓reduceIte])) | ((first | (refine cs_ ?_ ?_<;>intro hc) | refine cj_ ?_ | fail | refine a_Is ?_ | refine qg5 hg ?_)<;>(try refine ev_ ?_)) | with_reducible exact ti_)
   all_goals first | exact ⟨rfl,rfl⟩ | (exfalso;simp_all;done) | (simp_all;done)
  ·have ha2:(qbo [59] b c).2.2 = false:=by simpa using ha
   repeat' (first | refine vs_ ?_ | ((first | refine vr_ ?_ | fail)<;>(try simp only [hi2,ha2,go_sem,↓reduceIte])) | ((first | (refine cs_ ?_ ?_<;>intro hc) | refine cj_ ?_ | fail | refine a_Is ?_ | refine qg5 hg ?_)<;>(try refine ev_ ?_)) | with_reducible exact ti_)
   all_goals first | exact ⟨rfl,rfl⟩ | (exfalso;simp_all;done) | (simp_all;done)
theorem q5g (kd:Int) (c:K) (a0:List N) (hg:c.good) (hl:a0.length + rest c≤1048578):RovB (qbs kd) qd7 202 204 [59] kd false c a0 :=
 q56 (qf3 kd) monB (fun b c g _=>qbe8 _ kd b c g) (fun b c g _=>qbdv kd b c g) false c a0 hg (Nat.le_refl _) hl
section
variable {one:K->R3} {more:MF} {g1 g2:FuncId} {x:List UInt8} {kd:Int} {b:Bool} {c:K} {a0:List N} {Q:List Ent->VO->Prop}
theorem q9f (h:RovB one more g1 g2 x kd b c a0) (h0:(rowS one more b c a0).2.2.1 = a0) (hq:Q [curE (rowS one more b c a0).2.1,.app 5 (encs a0),.blk [.ptr 0 0],.blk [.int .i64 kd],.blk [.ptr 0 0],.blk [.str x],.blk [.bool (rowS one more b c a0).1],.blk [.fn 104 [] [.ptr 6 0,.ptr 4 0,.ptr 5 0]]] (.val (.tup [.row 1 a0.length,.bool (rowS one more b c a0).2.2.2]))) :
 VApp Tryz.prog [curE c,.app 5 (encs a0),.blk [.ptr 0 0],.blk [.int .i64 kd],.blk [.ptr 0 0],.blk [.str x],.blk [.bool b],.blk [.fn 104 [] [.ptr 6 0,.ptr 4 0,.ptr 5 0]]] (.fn 62 [] []) [.row 1 a0.length,.fn g1 [] [.ptr 2 0,.ptr 3 0],.fn g2 [] [.ptr 2 0,.ptr 7 0]] Q :=
 qbr (first:=[]) (caps:=[]) (by
  simp only [List.nil_append,List.append_nil]
  refine qb8 (H0:=[curE c,.blk [.ptr 0 0],.blk [.ptr 0 0],.blk [.str x],.blk [.bool b],.blk [.fn 104 [] [.ptr 4 0,.ptr 2 0,.ptr 3 0]],.blk [.int .i64 kd],.app 5 (encs a0)]) (args0:=[.row 7 a0.length,.fn g1 [] [.ptr 1 0,.ptr 6 0],.fn g2 [] [.ptr 1 0,.ptr 5 0]]) [0,2,4,5,6,7,3,1] h (by simp) ?_ rfl rfl ?_
  ·(refine ev_ ?_;(try with_reducible exact ti_))
   all_goals (rw [qbf,qu];exact ⟨rfl,rfl⟩)
  intro H1 o hh
  obtain ⟨rfl,rfl⟩:=hh.1 h0
  simpa [qez,qbg,sg',qm5,qpf,qin,qcbb,qn6,e_fn,AV.ren,AV.rens,VO.ren,qcv] using hq)
theorem q3v (h:RovB one more g1 g2 x kd b c a0) (h0:(rowS one more b c a0).2.2.1≠a0) (hq:Q [curE (rowS one more b c a0).2.1,.dead,.blk [.ptr 0 0],.blk [.int .i64 kd],.blk [.ptr 0 0],.blk [.str x],.blk [.bool (rowS one more b c a0).1],.blk [.fn 104 [] [.ptr 6 0,.ptr 4 0,.ptr 5 0]],.app 5 (encs (rowS one more b c a0).2.2.1)] (.val (.tup [.row 8 (rowS one more b c a0).2.2.1.length,.bool (rowS one more b c a0).2.2.2]))) :
 VApp Tryz.prog [curE c,.app 5 (encs a0),.blk [.ptr 0 0],.blk [.int .i64 kd],.blk [.ptr 0 0],.blk [.str x],.blk [.bool b],.blk [.fn 104 [] [.ptr 6 0,.ptr 4 0,.ptr 5 0]]] (.fn 62 [] []) [.row 1 a0.length,.fn g1 [] [.ptr 2 0,.ptr 3 0],.fn g2 [] [.ptr 2 0,.ptr 7 0]] Q :=
 qbr (first:=[]) (caps:=[]) (by
  simp only [List.nil_append,List.append_nil]
  refine qb8 (H0:=[curE c,.blk [.ptr 0 0],.blk [.ptr 0 0],.blk [.str x],.blk [.bool b],.blk [.fn 104 [] [.ptr 4 0,.ptr 2 0,.ptr 3 0]],.blk [.int .i64 kd],.app 5 (encs a0)]) (args0:=[.row 7 a0.length,.fn g1 [] [.ptr 1 0,.ptr 6 0],.fn g2 [] [.ptr 1 0,.ptr 5 0]]) [0,2,4,5,6,7,3,1] h (by simp) ?_ rfl rfl ?_
  ·(refine ev_ ?_;(try with_reducible exact ti_))
   all_goals (rw [qbf,qu];exact ⟨rfl,rfl⟩)
  intro H1 o hh
  obtain ⟨rfl,rfl⟩:=hh.2 h0
  have hd:∀ σ:Nat->Nat,Ent.dead.ren σ = .dead:=fun σ=>rfl
  simpa [qez,qbg,sg',qm5,qpf,qin,qcbb,qn6,e_fn,hd,AV.ren,AV.rens,VO.ren,qcv] using hq)
end
theorem q0k {kd:Int}:∀ (f:Nat) (b:Bool) (c:K) (acc:List N),rest c < f->(rowF (qbs kd) qd7 f b c acc).2.2.1≠acc->(rowF (qbs kd) qd7 f b c acc).2.2.1≠[]
 | 0,_,_,_,h,_=>absurd h (by omega)
 | f + 1, b, c, acc, hf, h => by
   rw [rowF] at h ⊢
   have h3:=(monB b c).2.1
   split at h
   ·rename_i h1
    rw [if_pos h1]
    split at h
    ·rename_i h2
     rw [if_pos h2]
     have h4:=(qf3 kd).l _ h2
     by_cases hq:(rowF (qbs kd) qd7 f (qd7 b c).1 (qbs kd (qd7 b c).2.1).1 (acc ++ [(qbs kd (qd7 b c).2.1).2.1])).2.2.1 = acc ++ [(qbs kd (qd7 b c).2.1).2.1]
     ·rw [hq];simp
     ·exact q0k f _ _ _ (by omega) hq
    ·exact absurd rfl h
   ·exact absurd rfl h
def qjm (kd:Int) (c:K) (out:List N):Prop :=
 VCalls Tryz.prog 169 [curE c,.app 5 (encs out)] [.ptr 0 0,.row 1 out.length,.int .i64 kd] fun H' o =>
  ((qdb kd c out).2.1 = out->H' = [curE (qdb kd c out).1,.app 5 (encs out)]∧o = .val (.tup [.row 1 out.length,.bool (qdb kd c out).2.2])) ∧
  ((qdb kd c out).2.1≠out->H' = [curE (qdb kd c out).1,.dead,.app 5 (encs (qdb kd c out).2.1)]∧o = .val (.tup [.row 2 (qdb kd c out).2.1.length,.bool (qdb kd c out).2.2]))
theorem q6z (kd:Int) (c:K) (out:List N) (hg:c.good) (hl:out.length + rest c≤1048578):qjm kd c out:=by
 unfold qjm
 obtain ⟨kk,hk1,hk2,hk0⟩:∃ k:Nat,((qdb kd c out).2.1 = out->k = 2)∧((qdb kd c out).2.1≠out->k = 3)∧2≤k:=by
  by_cases h:(qdb kd c out).2.1 = out
  ·exact ⟨2,fun _=>rfl,fun g=>absurd h g,Nat.le_refl _⟩
  ·exact ⟨3,fun g=>absurd g h,fun _=>rfl,Nat.le_succ _⟩
 refine qdd c0ff kk (by simpa using hk0) (by simp) ?_
 have g1:(qr c [119,104,101,114,101]).1.good:=(ql c _).1 hg
 have g2:(qr (qr c [119,104,101,114,101]).1 [123]).1.good:=(ql _ _).1 g1
 have r1:=(ql c [119,104,101,114,101]).2.1
 have r2:=(ql (qr c [119,104,101,114,101]).1 [123]).2.1
 unfold qdb at *
 by_cases h1:(qr c [119,104,101,114,101]).2 = true
 ·simp only [if_pos h1] at hk1 hk2 ⊢
  by_cases h2:(qr (qr c [119,104,101,114,101]).1 [123]).2 = true
  ·simp only [if_pos h2] at hk1 hk2 ⊢
   have hR:=q5g kd (qr (qr c [119,104,101,114,101]).1 [123]).1 out g2 (by omega)
   have i0:=fun Q=>@q9f _ _ _ _ _ _ _ _ _ Q hR
   have i1:=fun Q=>@q3v _ _ _ _ _ _ _ _ _ Q hR
   have hln0:(rowS (qbs kd) qd7 false (qr (qr c [119,104,101,114,101]).1 [123]).1 out).2.2.1≠out->(rowS (qbs kd) qd7 false (qr (qr c [119,104,101,114,101]).1 [123]).1 out).2.2.1≠[]:=q0k _ _ _ _ (Nat.lt_succ_self _)
   have g3:=(qfw (qf3 kd) monB false (qr (qr c [119,104,101,114,101]).1 [123]).1 out).1 g2
   clear hR
   generalize rowS (qbs kd) qd7 false (qr (qr c [119,104,101,114,101]).1 [123]).1 out = r at *
   obtain ⟨fl,d,l,ok⟩:=r
   simp only at i0 i1 g3 hk1 hk2 hln0 ⊢
   have hln:l≠out->l≠[]:=hln0
   have hl2:(qob (d,l,ok)).2.1 = l:=by unfold qob;split<;>rfl
   rw [hl2] at hk1 hk2
   simp only [hl2]
   by_cases hq:l = out
   ·obtain rfl:=hk1 hq
    cases ok with
    | false =>
      unfold qob
      repeat' (first | refine vs_ ?_ | ((first | refine vrr_ ?_ | fail)<;>(try simp only [h1,h2,go_sem,↓reduceIte])) | ((first | (refine cs_ ?_ ?_<;>intro hc) | refine cj_ ?_ | fail | refine qbz hg.ok ?_ | refine qbz g1.ok ?_ | refine qd5 ?_ | refine i0 _ hq ?_)<;>(try refine ev_ ?_)) | with_reducible exact ti_)
      all_goals first | exact ⟨fun _=>by first | trivial | exact ⟨rfl,rfl⟩,fun g=>absurd hq g⟩ | (exfalso;clear i0 i1;simp_all;done)
    | true =>
      unfold qob
      repeat' (first | refine vs_ ?_ | ((first | refine vrr_ ?_ | fail)<;>(try simp only [h1,h2,go_sem,↓reduceIte])) | ((first | (refine cs_ ?_ ?_<;>intro hc) | refine cj_ ?_ | fail | refine qbz hg.ok ?_ | refine qbz g1.ok ?_ | refine qd5 ?_ | refine i0 _ hq ?_ | refine qbz g3.ok ?_)<;>(try refine ev_ ?_)) | with_reducible exact ti_)
      all_goals first | exact ⟨fun _=>by first | trivial | exact ⟨rfl,rfl⟩,fun g=>absurd hq g⟩ | (exfalso;clear i0 i1;simp_all;done)
   ·obtain rfl:=hk2 hq
    have hne:l≠[]:=hln hq
    unfold k0ff
    generalize h9:q9n = R5
    repeat' (first | refine vs_ ?_ | ((first | refine vrr_ ?_ | fail)<;>(try simp only [h1,h2,go_sem,↓reduceIte])) | ((first | (refine cs_ ?_ ?_<;>intro hc) | refine cj_ ?_ | fail | refine qbz hg.ok ?_ | refine qbz g1.ok ?_ | refine qd5 ?_ | refine i1 _ hq ?_)<;>(try refine ev_ ?_)) | with_reducible exact ti_)
    all_goals first | (exfalso;clear i0 i1 h9;simp_all;done) | skip
    refine qbab (af':=⟨[(1,.row 2 l.length),(3,.ptr 3 0),(9,.bool ok)],[]⟩) (H':=[curE d,.dead,.app 5 (encs l),.blk [.ptr 0 0]]) ?_ (qba1 [0,1,8,2] rfl (by simp) ?_ ?_ ?_)
    rotate_left
    all_goals (try (refine ev_ ?_;(try with_reducible exact ti_)))
    all_goals (try (rw [qu,qbf];exact ⟨rfl,rfl⟩))
    subst h9
    cases ok with
    | false =>
      unfold qob
      repeat' (first | refine vs_ ?_ | ((first | refine vrr_ ?_ | refine qbz g3.ok ?_ | (refine cs_ ?_ ?_<;>intro hc) | refine cj_ ?_ | fail)<;>(try refine ev_ ?_)) | with_reducible exact ti_)
      all_goals exact ⟨fun g=>absurd g hq,fun _=>by first | trivial | exact ⟨rfl,rfl⟩⟩
    | true =>
      unfold qob
      repeat' (first | refine vs_ ?_ | ((first | refine vrr_ ?_ | refine qbz g3.ok ?_ | (refine cs_ ?_ ?_<;>intro hc) | refine cj_ ?_ | fail)<;>(try refine ev_ ?_)) | with_reducible exact ti_)
      all_goals exact ⟨fun g=>absurd g hq,fun _=>by first | trivial | exact ⟨rfl,rfl⟩⟩
  ·simp only [if_neg h2] at hk1 hk2 ⊢
   obtain rfl:=hk1 (by trivial)
   repeat' (first | refine vs_ ?_ | ((first | refine vrr_ ?_ | fail)<;>(try simp only [h1,h2,go_sem,↓reduceIte])) | ((first | (refine cs_ ?_ ?_<;>intro hc) | refine cj_ ?_ | fail | refine qbz hg.ok ?_ | refine qbz g1.ok ?_)<;>(try refine ev_ ?_)) | with_reducible exact ti_)
   all_goals first | exact ⟨rfl,rfl⟩ | exact ⟨fun _=>by first | trivial | exact ⟨rfl,rfl⟩,fun g=>absurd rfl g⟩ | (exfalso;simp_all;done) | (simp_all;done)
 ·simp only [if_neg h1] at hk1 hk2 ⊢
  obtain rfl:=hk1 (by trivial)
  repeat' (first | refine vs_ ?_ | ((first | refine vrr_ ?_ | fail)<;>(try simp only [h1,go_sem,↓reduceIte])) | ((first | (refine cs_ ?_ ?_<;>intro hc) | refine cj_ ?_ | fail | refine qbz hg.ok ?_ | refine qbz g1.ok ?_ | refine qd5 ?_)<;>(try refine ev_ ?_)) | with_reducible exact ti_)
  all_goals first | exact ⟨rfl,rfl⟩ | exact ⟨fun _=>by first | trivial | exact ⟨rfl,rfl⟩,fun g=>absurd rfl g⟩ | (exfalso;simp_all;done) | (simp_all;done)
set_option maxRecDepth 4000

section
variable {kd:Int} {c:K} {out:List N} {e1 e2 e3 e4 e5:Ent} {Q:List Ent->VO->Prop}
theorem qbiq (h:qjm kd c out) (h0:(qdb kd c out).2.1 = out) (hq:Q [curE (qdb kd c out).1,e1,e2,e3,e4,.app 5 (encs out)] (.val (.tup [.row 5 out.length,.bool (qdb kd c out).2.2]))) :
 VApp Tryz.prog [curE c,e1,e2,e3,e4,.app 5 (encs out)] (.fn 169 [] []) [.ptr 0 0,.row 5 out.length,.int .i64 kd] Q :=
 qbr (first:=[]) (caps:=[]) (by
  simp only [List.nil_append,List.append_nil]
  refine qb8 (H0:=[curE c,.app 5 (encs out)]) (args0:=[.ptr 0 0,.row 1 out.length,.int .i64 kd]) [0,5] h (by simp) ?_ rfl rfl ?_
  ·(refine ev_ ?_;(try with_reducible exact ti_))
   all_goals (rw [qbf,qu];exact ⟨rfl,rfl⟩)
  intro H1 o hh
  obtain ⟨rfl,rfl⟩:=hh.1 h0
  simpa [qez,qbg,sg',qn6,AV.ren,AV.rens,VO.ren,qcv] using hq)
theorem qbh6 (h:qjm kd c out) (h0:(qdb kd c out).2.1≠out) (hq:Q [curE (qdb kd c out).1,e1,e2,e3,e4,.dead,.app 5 (encs (qdb kd c out).2.1)] (.val (.tup [.row 6 (qdb kd c out).2.1.length,.bool (qdb kd c out).2.2]))) :
 VApp Tryz.prog [curE c,e1,e2,e3,e4,.app 5 (encs out)] (.fn 169 [] []) [.ptr 0 0,.row 5 out.length,.int .i64 kd] Q :=
 qbr (first:=[]) (caps:=[]) (by
  simp only [List.nil_append,List.append_nil]
  refine qb8 (H0:=[curE c,.app 5 (encs out)]) (args0:=[.ptr 0 0,.row 1 out.length,.int .i64 kd]) [0,5] h (by simp) ?_ rfl rfl ?_
  ·(refine ev_ ?_;(try with_reducible exact ti_))
   all_goals (rw [qbf,qu];exact ⟨rfl,rfl⟩)
  intro H1 o hh
  obtain ⟨rfl,rfl⟩:=hh.2 h0
  have hd:∀ σ:Nat->Nat,Ent.dead.ren σ = .dead:=fun σ=>rfl
  simpa [qez,qbg,sg',qn6,hd,AV.ren,AV.rens,VO.ren,qcv] using hq)
theorem qbh1 (h:qjm kd c out) (h0:(qdb kd c out).2.1 = out) (hq:Q [curE (qdb kd c out).1,e1,e2,e3,e4,e5,.app 5 (encs out)] (.val (.tup [.row 6 out.length,.bool (qdb kd c out).2.2]))) :
 VApp Tryz.prog [curE c,e1,e2,e3,e4,e5,.app 5 (encs out)] (.fn 169 [] []) [.ptr 0 0,.row 6 out.length,.int .i64 kd] Q :=
 qbr (first:=[]) (caps:=[]) (by
  simp only [List.nil_append,List.append_nil]
  refine qb8 (H0:=[curE c,.app 5 (encs out)]) (args0:=[.ptr 0 0,.row 1 out.length,.int .i64 kd]) [0,6] h (by simp) ?_ rfl rfl ?_
  ·(refine ev_ ?_;(try with_reducible exact ti_))
   all_goals (rw [qbf,qu];exact ⟨rfl,rfl⟩)
  intro H1 o hh
  obtain ⟨rfl,rfl⟩:=hh.1 h0
  simpa [qez,qbg,sg',qn6,AV.ren,AV.rens,VO.ren,qcv] using hq)
theorem qbht (h:qjm kd c out) (h0:(qdb kd c out).2.1≠out) (hq:Q [curE (qdb kd c out).1,e1,e2,e3,e4,e5,.dead,.app 5 (encs (qdb kd c out).2.1)] (.val (.tup [.row 7 (qdb kd c out).2.1.length,.bool (qdb kd c out).2.2]))) :
 VApp Tryz.prog [curE c,e1,e2,e3,e4,e5,.app 5 (encs out)] (.fn 169 [] []) [.ptr 0 0,.row 6 out.length,.int .i64 kd] Q :=
 qbr (first:=[]) (caps:=[]) (by
  simp only [List.nil_append,List.append_nil]
  refine qb8 (H0:=[curE c,.app 5 (encs out)]) (args0:=[.ptr 0 0,.row 1 out.length,.int .i64 kd]) [0,6] h (by simp) ?_ rfl rfl ?_
  ·(refine ev_ ?_;(try with_reducible exact ti_))
   all_goals (rw [qbf,qu];exact ⟨rfl,rfl⟩)
  intro H1 o hh
  obtain ⟨rfl,rfl⟩:=hh.2 h0
  have hd:∀ σ:Nat->Nat,Ent.dead.ren σ = .dead:=fun σ=>rfl
  simpa [qez,qbg,sg',qn6,hd,AV.ren,AV.rens,VO.ren,qcv] using hq)
end
theorem qbhv:∀ l:List N,l.length≤szs l
 | []=>Nat.zero_le _
 | x :: r => by
   have:=qbhv r
   rw [szs,qeh,List.length_cons];omega
def qbcg (k p:Int):AV:=.agg [.int .i64 k,.int .i64 p,.int .i64 0,.str [],.nils]
theorem qsk (k p:Int):AV.agg [.int .i64 k,.int .i64 p,.int .i64 0,.str [],.sl 5 []] = enc (q0y k p):=by simp only [q0y,enc,encs]
theorem qht (k p:Int) (t:T) (v l:List N):AV.agg [.int .i64 k,.int .i64 p,.int .i64 v.length,.str t.text,.sl 5 (encs l)] = enc (qpz k p t v l):=by simp only [qpz,enc]
theorem qo0 (k p:Int) (t:T) (v:List N):AV.agg [.int .i64 k,.int .i64 p,.int .i64 v.length,.str t.text,.sl 5 []] = enc (qpz k p t v []):=qht k p t v []
theorem qk7 (k p:Int) (t:T) (l:List N):AV.agg [.int .i64 k,.int .i64 p,.int .i64 0,.str t.text,.sl 5 (encs l)] = enc (qpz k p t [] l):=qht k p t [] l
theorem qor (k p:Int) (t:T):AV.agg [.int .i64 k,.int .i64 p,.int .i64 0,.str t.text,.sl 5 []] = enc (qpz k p t [] []):=qht k p t [] []
set_option maxHeartbeats 2000000 in
theorem q86 (k p:Int) (c:K) (hg:c.good):qbt Tryz.prog 107 (curE c) (curE (qm3 k p c).1) [.ptr 0 0,qbcg k p] (resB (qm3 k p c).2):=by
 have hP:qhd (qbn (rest c + 2)) c:=qoo (qcx _) (qqs (rest c + 2)) c hg (by omega)
 have p0:=@ql9 (qbn (rest c + 2)) c hP
 have p1:=@qrh (qbn (rest c + 2)) c hP
 have g1:(qge c).1.good:=(qhi c).1 hg
 have h9:=hg.rest
 have hpl:=fun l=>@q0x c l
 have hpz:=fun l (h:(qge c).2 = some l)=>Nat.le_trans (Nat.add_le_add_right (qbhv l) _) (@qv2 c l h)
 clear hP
 refine qj c0fb 1 (by simp) (by simp [qbcg]) ?_
 unfold qm3 q60 qbcg
 unfold qge at *
 generalize qw (qbn (rest c + 2)) c = pr at *
 obtain ⟨d,o⟩:=pr
 simp only at p0 p1 g1 hpl hpz ⊢
 cases o with
 | none =>
   repeat' (first | refine vs_ ?_ | ((first | refine vrr_ ?_ | fail)<;>(try simp (disch:=first | omega | (simp only [List.length_set,List.length_append,List.length_cons,List.length_nil];done) | (simp only [List.length_set,List.length_append,List.length_cons,List.length_nil];omega)) only [Option.isSome_none,Option.getD_none,go_sem,↓reduceIte])) | ((first | (refine cs_ ?_ ?_<;>intro hc) | refine cj_ ?_ | fail | refine p0 rfl ?_)<;>(try refine ev_ ?_)) | with_reducible exact ti_)
   all_goals (try rw [qsk])
   all_goals first | exact ⟨rfl,rfl⟩ | rfl | (exfalso;clear p0 p1;simp_all;done)
 | some v =>
   have hvl:=hpl v rfl
   have hvz:=hpz v rfl
   have hvm:v.length≤maxLen:=by unfold maxLen;unfold rest at hvl;omega
   have hcap:qec (v.length + 1) 64:=capN (by unfold rest at hvl;omega)
   have hcap1:qec 1 64:=capN (by omega)
   have p0:v = []->_:=fun h=>@p0 h
   have p1:v≠[]->_:=fun h=>@p1 v rfl h
   clear hpl hpz
   simp only [Option.getD_some,Option.isSome_some,if_true]
   have g2:(kindK d 2).1.good:=(qch d 2).1 g1
   have r2:=(qch d 2).2.1
   by_cases hk:(kindK d 2).2 = true
   ·rw [if_pos hk]
    have ha:=qox (kindK d 2).1 g2
    have g3:=(qiv (kindK d 2).1).1 g2
    have r3:=(qiv (kindK d 2).1).2.1
    have r4:(qhs (kindK d 2).1).2.isSome = true->rest (qhs (kindK d 2).1).1 < rest (kindK d 2).1:=fun h=>qdv (qcx _) h
    unfold q2t q5n
    generalize qhs (kindK d 2).1 = a at *
    have hkl:=ql1 (by decide) hk
    have hvl2:v.length + 1 + rest a.1≤1048578:=by unfold rest at *;omega
    by_cases h35:k = 35
    ·subst h35
     simp only [true_and,if_true]
     by_cases hv:(qs (kindK d 2).1).kind = 1
     ·have hv1:=hv
      rw [if_neg (by simp [hv])]
      have hbs:=q6z 32 a.1 (v ++ [a.2.getD N0]) g3 (by simp only [List.length_append,List.length_cons,List.length_nil];unfold rest at *;omega)
      have a0:=fun e1 e2 e3 e4 Q=>@qbiq 32 a.1 (v ++ [a.2.getD N0]) e1 e2 e3 e4 Q hbs
      have a1:=fun e1 e2 e3 e4 Q=>@qbh6 32 a.1 (v ++ [a.2.getD N0]) e1 e2 e3 e4 Q hbs
      have b0:=fun e1 e2 e3 e4 e5 Q=>@qbh1 32 a.1 (v ++ [a.2.getD N0]) e1 e2 e3 e4 e5 Q hbs
      have b1:=fun e1 e2 e3 e4 e5 Q=>@qbht 32 a.1 (v ++ [a.2.getD N0]) e1 e2 e3 e4 e5 Q hbs
      clear hbs
      generalize qdb 32 a.1 (v ++ [a.2.getD N0]) = B at *
      obtain ⟨a,oa⟩:=a
      cases oa with
      | none =>
        simp only [Option.isSome_none,Bool.false_eq_true,if_false,Option.getD_none] at ha ⊢
        clear a0 a1 b0 b1
        by_cases h0:v = []
        ·repeat' (first | refine vs_ ?_ | ((first | refine vrr_ ?_ | fail)<;>(try simp (disch:=first | omega | (simp only [List.length_set,List.length_append,List.length_cons,List.length_nil];done) | (simp only [List.length_set,List.length_append,List.length_cons,List.length_nil];omega)) only [hk,Option.isSome_some,hv1,ne_eq,not_true_eq_false,decide_false,Option.isSome_none,Option.getD_none,go_sem,↓reduceIte])) | ((first | (refine cs_ ?_ ?_<;>intro hc) | refine cj_ ?_ | fail | refine p0 h0 ?_ | refine qcz g1.ok ?_ | refine qbq ?_ | refine qfa ?_ | refine qb7 ha rfl ?_)<;>(try refine ev_ ?_)) | with_reducible exact ti_)
         all_goals (try subst h0)
         all_goals (try rw [qor])
         all_goals first | exact ⟨rfl,rfl⟩ | rfl | (exfalso;clear p0 p1;simp_all;done)
        ·repeat' (first | refine vs_ ?_ | ((first | refine vrr_ ?_ | fail)<;>(try simp (disch:=first | omega | (simp only [List.length_set,List.length_append,List.length_cons,List.length_nil];done) | (simp only [List.length_set,List.length_append,List.length_cons,List.length_nil];omega)) only [hk,Option.isSome_some,hv1,ne_eq,not_true_eq_false,decide_false,Option.isSome_none,Option.getD_none,go_sem,↓reduceIte])) | ((first | (refine cs_ ?_ ?_<;>intro hc) | refine cj_ ?_ | fail | refine p1 h0 ?_ | refine qcz g1.ok ?_ | refine qbq ?_ | refine qfa ?_ | refine qb7 ha rfl ?_)<;>(try refine ev_ ?_)) | with_reducible exact ti_)
         all_goals (try rw [qo0])
         all_goals first | exact ⟨rfl,rfl⟩ | rfl | (exfalso;clear p0 p1;simp_all;done)
      | some n =>
        simp only [Option.isSome_some,if_true,Option.getD_some] at ha a0 a1 b0 b1 ⊢
        by_cases h0:v = []
        ·subst h0
         clear b0 b1 hcap
         simp only [List.nil_append,encs,List.length_cons,List.length_nil,Nat.zero_add] at a0 a1
         by_cases hq:B.2.1 = [n]
         ·repeat' (first | refine vs_ ?_ | ((first | refine vrr_ ?_ | fail)<;>(try simp only [hk,Option.isSome_some,hv1,ne_eq,not_true_eq_false,decide_false,go_sem,↓reduceIte])) | ((first | (refine cs_ ?_ ?_<;>intro hc) | refine cj_ ?_ | fail | refine p0 rfl ?_ | refine qcz g1.ok ?_ | refine qbq ?_ | refine qfa ?_ | refine qb7 ha rfl ?_ | refine a0 _ _ _ _ _ hq ?_)<;>(try refine ev_ ?_)) | with_reducible exact ti_)
          all_goals (try rw [hq,← qk7])
          all_goals first | exact ⟨rfl,rfl⟩ | rfl | (exfalso;clear p0 p1 a0 a1;simp_all;done)
         ·repeat' (first | refine vs_ ?_ | ((first | refine vrr_ ?_ | fail)<;>(try simp only [hk,Option.isSome_some,hv1,ne_eq,not_true_eq_false,decide_false,go_sem,↓reduceIte])) | ((first | (refine cs_ ?_ ?_<;>intro hc) | refine cj_ ?_ | fail | refine p0 rfl ?_ | refine qcz g1.ok ?_ | refine qbq ?_ | refine qfa ?_ | refine qb7 ha rfl ?_ | refine a1 _ _ _ _ _ hq ?_)<;>(try refine ev_ ?_)) | with_reducible exact ti_)
          all_goals (try rw [qk7])
          all_goals first | exact ⟨rfl,rfl⟩ | rfl | (exfalso;clear p0 p1 a0 a1;simp_all;done)
        ·clear a0 a1 hcap1
         simp only [← qh,List.length_append,List.length_cons,List.length_nil,Nat.zero_add] at b0 b1
         by_cases hq:B.2.1 = v ++ [n]
         ·repeat' (first | refine vs_ ?_ | ((first | refine vrr_ ?_ | fail)<;>(try simp only [hk,Option.isSome_some,hv1,ne_eq,not_true_eq_false,decide_false,go_sem,↓reduceIte])) | ((first | (refine cs_ ?_ ?_<;>intro hc) | refine cj_ ?_ | fail | refine p1 h0 ?_ | refine qcz g1.ok ?_ | refine qbq ?_ | refine qfa ?_ | refine qb7 ha rfl ?_ | refine b0 _ _ _ _ _ _ hq ?_)<;>(try refine ev_ ?_)) | with_reducible exact ti_)
          all_goals (try (rw [qh,qht,hq];exact ⟨qu _ _,rfl⟩))
          all_goals first | exact ⟨rfl,rfl⟩ | rfl | (exfalso;clear p0 p1 b0 b1;simp_all;done)
         ·repeat' (first | refine vs_ ?_ | ((first | refine vrr_ ?_ | fail)<;>(try simp only [hk,Option.isSome_some,hv1,ne_eq,not_true_eq_false,decide_false,go_sem,↓reduceIte])) | ((first | (refine cs_ ?_ ?_<;>intro hc) | refine cj_ ?_ | fail | refine p1 h0 ?_ | refine qcz g1.ok ?_ | refine qbq ?_ | refine qfa ?_ | refine qb7 ha rfl ?_ | refine b1 _ _ _ _ _ _ hq ?_)<;>(try refine ev_ ?_)) | with_reducible exact ti_)
          all_goals (try rw [qht])
          all_goals first | exact ⟨rfl,rfl⟩ | rfl | (exfalso;clear p0 p1 b0 b1;simp_all;done)
     ·rw [if_pos hv]
      clear ha
      by_cases h0:v = []
      ·repeat' (first | refine vs_ ?_ | ((first | refine vrr_ ?_ | fail)<;>(try simp only [hk,hv,Option.isSome_some,go_sem,↓reduceIte])) | ((first | (refine cs_ ?_ ?_<;>intro hc) | refine cj_ ?_ | fail | refine p0 h0 ?_ | refine qcz g1.ok ?_ | refine qbq ?_ | refine qfa ?_)<;>(try refine ev_ ?_)) | with_reducible exact ti_)
       all_goals (try subst h0)
       all_goals (try rw [qor])
       all_goals first | exact ⟨rfl,rfl⟩ | rfl | (exfalso;clear p0 p1;simp_all;done)
      ·repeat' (first | refine vs_ ?_ | ((first | refine vrr_ ?_ | fail)<;>(try simp only [hk,hv,Option.isSome_some,go_sem,↓reduceIte])) | ((first | (refine cs_ ?_ ?_<;>intro hc) | refine cj_ ?_ | fail | refine p1 h0 ?_ | refine qcz g1.ok ?_ | refine qbq ?_ | refine qfa ?_)<;>(try refine ev_ ?_)) | with_reducible exact ti_)
       all_goals (try rw [qo0])
       all_goals first | exact ⟨rfl,rfl⟩ | rfl | (exfalso;clear p0 p1;simp_all;done)
    ·simp only [if_neg h35,h35,false_and,if_false]
     have hbs:=q6z 31 a.1 (v ++ [a.2.getD N0]) g3 (by simp only [List.length_append,List.length_cons,List.length_nil];unfold rest at *;omega)
     have a0:=fun e1 e2 e3 e4 Q=>@qbiq 31 a.1 (v ++ [a.2.getD N0]) e1 e2 e3 e4 Q hbs
     have a1:=fun e1 e2 e3 e4 Q=>@qbh6 31 a.1 (v ++ [a.2.getD N0]) e1 e2 e3 e4 Q hbs
     have b0:=fun e1 e2 e3 e4 e5 Q=>@qbh1 31 a.1 (v ++ [a.2.getD N0]) e1 e2 e3 e4 e5 Q hbs
     have b1:=fun e1 e2 e3 e4 e5 Q=>@qbht 31 a.1 (v ++ [a.2.getD N0]) e1 e2 e3 e4 e5 Q hbs
     clear hbs
     generalize qdb 31 a.1 (v ++ [a.2.getD N0]) = B at *
     obtain ⟨a,oa⟩:=a
     cases oa with
     | none =>
       simp only [Option.isSome_none,Bool.false_eq_true,if_false,Option.getD_none] at ha ⊢
       clear a0 a1 b0 b1
       by_cases h0:v = []
       ·repeat' (first | refine vs_ ?_ | ((first | refine vrr_ ?_ | fail)<;>(try simp (disch:=first | omega | (simp only [List.length_set,List.length_append,List.length_cons,List.length_nil];done) | (simp only [List.length_set,List.length_append,List.length_cons,List.length_nil];omega)) only [hk,Option.isSome_some,h35,Option.isSome_none,Option.getD_none,go_sem,↓reduceIte])) | ((first | (refine cs_ ?_ ?_<;>intro hc) | refine cj_ ?_ | fail | refine p0 h0 ?_ | refine qcz g1.ok ?_ | refine qbq ?_ | refine qfa ?_ | refine qb7 ha rfl ?_)<;>(try refine ev_ ?_)) | with_reducible exact ti_)
        all_goals (try subst h0)
        all_goals (try rw [qor])
        all_goals first | exact ⟨rfl,rfl⟩ | rfl | (exfalso;clear p0 p1;simp_all;done)
       ·repeat' (first | refine vs_ ?_ | ((first | refine vrr_ ?_ | fail)<;>(try simp (disch:=first | omega | (simp only [List.length_set,List.length_append,List.length_cons,List.length_nil];done) | (simp only [List.length_set,List.length_append,List.length_cons,List.length_nil];omega)) only [hk,Option.isSome_some,h35,Option.isSome_none,Option.getD_none,go_sem,↓reduceIte])) | ((first | (refine cs_ ?_ ?_<;>intro hc) | refine cj_ ?_ | fail | refine p1 h0 ?_ | refine qcz g1.ok ?_ | refine qbq ?_ | refine qfa ?_ | refine qb7 ha rfl ?_)<;>(try refine ev_ ?_)) | with_reducible exact ti_)
        all_goals (try rw [qo0])
        all_goals first | exact ⟨rfl,rfl⟩ | rfl | (exfalso;clear p0 p1;simp_all;done)
     | some n =>
       simp only [Option.isSome_some,if_true,Option.getD_some] at ha a0 a1 b0 b1 ⊢
       by_cases h0:v = []
       ·subst h0
        clear b0 b1 hcap
        simp only [List.nil_append,encs,List.length_cons,List.length_nil,Nat.zero_add] at a0 a1
        by_cases hq:B.2.1 = [n]
        ·repeat' (first | refine vs_ ?_ | ((first | refine vrr_ ?_ | fail)<;>(try simp only [hk,Option.isSome_some,h35,go_sem,↓reduceIte])) | ((first | (refine cs_ ?_ ?_<;>intro hc) | refine cj_ ?_ | fail | refine p0 rfl ?_ | refine qcz g1.ok ?_ | refine qbq ?_ | refine qfa ?_ | refine qb7 ha rfl ?_ | refine a0 _ _ _ _ _ hq ?_)<;>(try refine ev_ ?_)) | with_reducible exact ti_)
         all_goals (try rw [hq,← qk7])
         all_goals first | exact ⟨rfl,rfl⟩ | rfl | (exfalso;clear p0 p1 a0 a1;simp_all;done)
        ·repeat' (first | refine vs_ ?_ | ((first | refine vrr_ ?_ | fail)<;>(try simp only [hk,Option.isSome_some,h35,go_sem,↓reduceIte])) | ((first | (refine cs_ ?_ ?_<;>intro hc) | refine cj_ ?_ | fail | refine p0 rfl ?_ | refine qcz g1.ok ?_ | refine qbq ?_ | refine qfa ?_ | refine qb7 ha rfl ?_ | refine a1 _ _ _ _ _ hq ?_)<;>(try refine ev_ ?_)) | with_reducible exact ti_)
         all_goals (try rw [qk7])
         all_goals first | exact ⟨rfl,rfl⟩ | rfl | (exfalso;clear p0 p1 a0 a1;simp_all;done)
       ·clear a0 a1 hcap1
        simp only [← qh,List.length_append,List.length_cons,List.length_nil,Nat.zero_add] at b0 b1
        by_cases hq:B.2.1 = v ++ [n]
        ·repeat' (first | refine vs_ ?_ | ((first | refine vrr_ ?_ | fail)<;>(try simp only [hk,Option.isSome_some,h35,go_sem,↓reduceIte])) | ((first | (refine cs_ ?_ ?_<;>intro hc) | refine cj_ ?_ | fail | refine p1 h0 ?_ | refine qcz g1.ok ?_ | refine qbq ?_ | refine qfa ?_ | refine qb7 ha rfl ?_ | refine b0 _ _ _ _ _ _ hq ?_)<;>(try refine ev_ ?_)) | with_reducible exact ti_)
         all_goals (try (rw [qh,qht,hq];exact ⟨qu _ _,rfl⟩))
         all_goals first | exact ⟨rfl,rfl⟩ | rfl | (exfalso;clear p0 p1 b0 b1;simp_all;done)
        ·repeat' (first | refine vs_ ?_ | ((first | refine vrr_ ?_ | fail)<;>(try simp only [hk,Option.isSome_some,h35,go_sem,↓reduceIte])) | ((first | (refine cs_ ?_ ?_<;>intro hc) | refine cj_ ?_ | fail | refine p1 h0 ?_ | refine qcz g1.ok ?_ | refine qbq ?_ | refine qfa ?_ | refine qb7 ha rfl ?_ | refine b1 _ _ _ _ _ _ hq ?_)<;>(try refine ev_ ?_)) | with_reducible exact ti_)
         all_goals (try rw [qht])
         all_goals first | exact ⟨rfl,rfl⟩ | rfl | (exfalso;clear p0 p1 b0 b1;simp_all;done)
   ·rw [if_neg hk]
    by_cases h0:v = []
    ·repeat' (first | refine vs_ ?_ | ((first | refine vrr_ ?_ | fail)<;>(try simp only [hk,Option.isSome_some,go_sem,↓reduceIte])) | ((first | (refine cs_ ?_ ?_<;>intro hc) | refine cj_ ?_ | fail | refine p0 h0 ?_ | refine qcz g1.ok ?_)<;>(try refine ev_ ?_)) | with_reducible exact ti_)
     all_goals (try rw [qsk])
     all_goals first | exact ⟨rfl,rfl⟩ | rfl | (exfalso;clear p0 p1;simp_all;done)
    ·repeat' (first | refine vs_ ?_ | ((first | refine vrr_ ?_ | fail)<;>(try simp only [hk,Option.isSome_some,go_sem,↓reduceIte])) | ((first | (refine cs_ ?_ ?_<;>intro hc) | refine cj_ ?_ | fail | refine p1 h0 ?_ | refine qcz g1.ok ?_)<;>(try refine ev_ ?_)) | with_reducible exact ti_)
     all_goals (try rw [qsk])
     all_goals first | exact ⟨rfl,rfl⟩ | rfl | (exfalso;clear p0 p1;simp_all;done)
set_option maxRecDepth 4000

theorem qbos (c:K) (hg:c.good):qbt Tryz.prog 64 (curE c) (curE (qdg c).1) [.ptr 0 0] (resB (qdg c).2):=by
 have g1:(qn c qpo).1.good:=(qv _ _).1 hg
 have g2:(qn c qip).1.good:=(qv _ _).1 hg
 have g3:(qn c qpa).1.good:=(qv _ _).1 hg
 have h1:=qbua (qs c).pos _ g1
 have h2:=q86 35 (qs c).pos _ g2
 have h3:=q86 36 (qs c).pos _ g3
 have h4:=qwr c hg
 refine qj c0ew 1 (by simp) (by simp) ?_
 unfold qdg
 unfold qpo qip qpa posZ qbcg at *
 by_cases t1:(qn c [100,97,116,97]).2 = true
 ·rw [if_pos t1]
  repeat' (first | refine vs_ ?_ | ((first | refine vrr_ ?_ | fail)<;>(try simp only [t1,go_sem,↓reduceIte])) | ((first | (refine cs_ ?_ ?_<;>intro hc) | refine cj_ ?_ | fail | refine qbq ?_ | refine qdp hg.ok ?_ | refine qjr h1 rfl ?_)<;>(try refine ev_ ?_)) | with_reducible exact ti_)
 ·have t1f:(qn c [100,97,116,97]).2 = false:=by simpa using t1
  have e1:=qda t1f
  rw [if_neg t1]
  by_cases t2:(qn c [99,108,97,115,115]).2 = true
  ·rw [if_pos t2]
   repeat' (first | refine vs_ ?_ | ((first | refine vrr_ ?_ | fail)<;>(try simp only [t1f,e1,t2,go_sem,↓reduceIte])) | ((first | (refine cs_ ?_ ?_<;>intro hc) | refine cj_ ?_ | fail | refine qbq ?_ | refine qdp hg.ok ?_ | refine qjr h2 rfl ?_)<;>(try refine ev_ ?_)) | with_reducible exact ti_)
  ·have t2f:(qn c [99,108,97,115,115]).2 = false:=by simpa using t2
   have e2:=qda t2f
   rw [if_neg t2]
   by_cases t3:(qn c [105,110,115,116,97,110,99,101]).2 = true
   ·rw [if_pos t3]
    repeat' (first | refine vs_ ?_ | ((first | refine vrr_ ?_ | fail)<;>(try simp only [t1f,e1,t2f,e2,t3,go_sem,↓reduceIte])) | ((first | (refine cs_ ?_ ?_<;>intro hc) | refine cj_ ?_ | fail | refine qbq ?_ | refine qdp hg.ok ?_ | refine qjr h3 rfl ?_)<;>(try refine ev_ ?_)) | with_reducible exact ti_)
   ·have t3f:(qn c [105,110,115,116,97,110,99,101]).2 = false:=by simpa using t3
    have e3:=qda t3f
    rw [if_neg t3]
    unfold ofO
    repeat' (first | refine vs_ ?_ | ((first | refine vrr_ ?_ | fail)<;>(try simp only [t1f,e1,t2f,e2,t3f,e3,go_sem,↓reduceIte])) | ((first | (refine cs_ ?_ ?_<;>intro hc) | refine cj_ ?_ | fail | refine qbq ?_ | refine qdp hg.ok ?_ | refine qb7 h4 rfl ?_)<;>(try refine ev_ ?_)) | with_reducible exact ti_)
theorem qbhx {c:K} {L:List Ent} {Q:List Ent->VO->Prop} (hg:c.good) (hq:Q (curE (qdg c).1 :: L) (.val (resB (qdg c).2))):VApp Tryz.prog (curE c :: L) (.fn 64 [] []) [.ptr 0 0] Q:=qjr (qbos c hg) rfl hq
theorem qbem (x:List UInt8) (b:Bool) (c:K) (hg:c.good):VCalls Tryz.prog 63 [curE c,.blk [.ptr 0 0],.blk [.ptr 0 0],.blk [.str x],.blk [.bool b],.blk [.fn 104 [] [.ptr 4 0,.ptr 2 0,.ptr 3 0]]] [.ptr 1 0] fun H' o=>H' = frP x b (qdg c).1∧o = .val (resB (qdg c).2):=by
 refine qj c0ex 6 (by simp) (by simp) ?_
 unfold frP
 repeat' (first | refine vs_ ?_ | ((first | refine vr_ ?_ | refine qbhx hg ?_ | (refine cs_ ?_ ?_<;>intro hc) | refine cj_ ?_ | fail)<;>(try refine ev_ ?_)) | with_reducible exact ti_)
 all_goals exact ⟨rfl,rfl⟩
theorem qbgw (b:Bool) (c:K) (hg:c.good):VCalls Tryz.prog 65 [curE c,.blk [.ptr 0 0],.blk [.ptr 0 0],.blk [.str [59]],.blk [.bool b],.blk [.fn 104 [] [.ptr 4 0,.ptr 2 0,.ptr 3 0]]] [.ptr 1 0,.ptr 5 0] fun H' o=>H' = frP [59] (qfl b c).1 (qfl b c).2.1∧o = .val (.bool (qfl b c).2.2):=by
 refine qj c0ey 6 (by simp) (by simp) ?_
 unfold frP qfl
 by_cases hi:(qs c).kind = 0
 ·rw [if_pos hi]
  repeat' (first | refine vs_ ?_ | ((first | refine vr_ ?_ | fail)<;>(try simp only [hi,ne_eq,not_true_eq_false,decide_false,go_sem,↓reduceIte])) | ((first | (refine cs_ ?_ ?_<;>intro hc) | refine cj_ ?_ | fail | refine qbq ?_ | refine qg5 hg ?_)<;>(try refine ev_ ?_)) | with_reducible exact ti_)
  all_goals first | exact ⟨rfl,rfl⟩ | (exfalso;simp_all;done) | (simp_all;done)
 ·rw [if_neg hi]
  by_cases ha:(qbo [59] b c).2.2 = true
  ·repeat' (first | refine vs_ ?_ | ((first | refine vr_ ?_ | fail)<;>(try simp only [hi,ha,ne_eq,not_false_eq_true,decide_true,go_sem,↓reduceIte])) | ((first | (refine cs_ ?_ ?_<;>intro hc) | refine cj_ ?_ | fail | refine qbq ?_ | refine qg5 hg ?_)<;>(try refine ev_ ?_)) | with_reducible exact ti_)
   all_goals first | exact ⟨rfl,rfl⟩ | (exfalso;simp_all;done) | (simp_all;done)
  ·have ha2:(qbo [59] b c).2.2 = false:=by simpa using ha
   repeat' (first | refine vs_ ?_ | ((first | refine vr_ ?_ | fail)<;>(try simp only [hi,ha2,ne_eq,not_false_eq_true,decide_true,go_sem,↓reduceIte])) | ((first | (refine cs_ ?_ ?_<;>intro hc) | refine cj_ ?_ | fail | refine qbq ?_ | refine qg5 hg ?_)<;>(try refine ev_ ?_)) | with_reducible exact ti_)
   all_goals first | exact ⟨rfl,rfl⟩ | (exfalso;simp_all;done) | (simp_all;done)
theorem q3p (c:K) (hg:c.good):RowP qdg qfl 63 65 [59] false c :=
 q84 goes_decl monP (fun b c g _=>qbem _ b c g) (fun b c g _=>qbgw b c g) false c hg (Nat.le_refl _)
section
variable {one:K->R3} {more:MF} {g1 g2:FuncId} {x:List UInt8} {b:Bool} {c:K} {e2:Ent} {Q:List Ent->VO->Prop}
theorem q9a (h:RowP one more g1 g2 x b c) (h0:(rowS one more b c []).2.2.1 = []) (hq:Q [curE (rowS one more b c []).2.1,.blk [.ptr 0 0],e2,.blk [.ptr 0 0],.blk [.str x],.blk [.bool (rowS one more b c []).1],.blk [.fn 104 [] [.ptr 5 0,.ptr 3 0,.ptr 4 0]]] (.val (.tup [.nils,.bool (rowS one more b c []).2.2.2]))) :
 VApp Tryz.prog [curE c,.blk [.ptr 0 0],e2,.blk [.ptr 0 0],.blk [.str x],.blk [.bool b],.blk [.fn 104 [] [.ptr 5 0,.ptr 3 0,.ptr 4 0]]] (.fn 62 [] []) [.nils,.fn g1 [] [.ptr 1 0],.fn g2 [] [.ptr 1 0,.ptr 6 0]] Q :=
 qbr (first:=[]) (caps:=[]) (by
  simp only [List.nil_append,List.append_nil]
  refine qb8 (H0:=[curE c,.blk [.ptr 0 0],.blk [.ptr 0 0],.blk [.str x],.blk [.bool b],.blk [.fn 104 [] [.ptr 4 0,.ptr 2 0,.ptr 3 0]]]) (args0:=[.nils,.fn g1 [] [.ptr 1 0],.fn g2 [] [.ptr 1 0,.ptr 5 0]]) [0,1,3,4,5,6] h (by simp) ?_ rfl rfl ?_
  ·(refine ev_ ?_;(try with_reducible exact ti_))
  rintro H1 o ⟨rfl,rfl⟩
  rw [h0]
  simpa [encs,qbc,qbb,qez,qbg,sg',qm5,qpf,qin,e_fn,AV.ren,AV.rens,VO.ren,qcv] using hq)
theorem q29 (h:RowP one more g1 g2 x b c) (h0:(rowS one more b c []).2.2.1≠[]) (hq:Q [curE (rowS one more b c []).2.1,.blk [.ptr 0 0],e2,.blk [.ptr 0 0],.blk [.str x],.blk [.bool (rowS one more b c []).1],.blk [.fn 104 [] [.ptr 5 0,.ptr 3 0,.ptr 4 0]],.app 5 (encs (rowS one more b c []).2.2.1)] (.val (.tup [.row 7 (rowS one more b c []).2.2.1.length,.bool (rowS one more b c []).2.2.2]))) :
 VApp Tryz.prog [curE c,.blk [.ptr 0 0],e2,.blk [.ptr 0 0],.blk [.str x],.blk [.bool b],.blk [.fn 104 [] [.ptr 5 0,.ptr 3 0,.ptr 4 0]]] (.fn 62 [] []) [.nils,.fn g1 [] [.ptr 1 0],.fn g2 [] [.ptr 1 0,.ptr 6 0]] Q :=
 qbr (first:=[]) (caps:=[]) (by
  simp only [List.nil_append,List.append_nil]
  refine qb8 (H0:=[curE c,.blk [.ptr 0 0],.blk [.ptr 0 0],.blk [.str x],.blk [.bool b],.blk [.fn 104 [] [.ptr 4 0,.ptr 2 0,.ptr 3 0]]]) (args0:=[.nils,.fn g1 [] [.ptr 1 0],.fn g2 [] [.ptr 1 0,.ptr 5 0]]) [0,1,3,4,5,6] h (by simp) ?_ rfl rfl ?_
  ·(refine ev_ ?_;(try with_reducible exact ti_))
  rintro H1 o ⟨rfl,rfl⟩
  rw [qbh (q9 h0),qbi (q9 h0),q8]
  simpa [qez,qbg,sg',qm5,qpf,qin,e_fn,qn6,AV.ren,AV.rens,VO.ren,qcv] using hq)
end
theorem qz1 (l:List N):AV.agg [.int .i64 37,.int .i64 0,.int .i64 0,.str [],.sl 5 (encs l)] = enc (q1q l):=by simp only [q1q,enc]
theorem q5a:AV.agg [.int .i64 37,.int .i64 0,.int .i64 0,.str [],.sl 5 []] = enc (q1q []):=qz1 []
theorem qb4l (c:K) (hg:c.good):qbt Tryz.prog 60 (curE c) (curE (qs0 c).1) [.ptr 0 0] (enc ((qs0 c).2.getD N0)):=by
 have hR:=q3p c hg
 have i0:=fun e2 Q=>@q9a _ _ _ _ _ _ _ e2 Q hR
 have i1:=fun e2 Q=>@q29 _ _ _ _ _ _ _ e2 Q hR
 clear hR
 refine qj c0ez 1 (by simp) (by simp) ?_
 unfold qs0
 generalize rowS qdg qfl false c [] = r at *
 by_cases hq:r.2.2.1 = []
 ·repeat' (first | refine vs_ ?_ | ((first | refine vrr_ ?_ | refine qd5 ?_ | refine i0 _ _ hq ?_ | (refine cs_ ?_ ?_<;>intro hc) | refine cj_ ?_ | fail)<;>(try refine ev_ ?_)) | with_reducible exact ti_)
  all_goals (rw [Option.getD_some,hq,← q5a];first | done | rfl | exact ⟨rfl,rfl⟩)
 ·repeat' (first | refine vs_ ?_ | ((first | refine vrr_ ?_ | refine qd5 ?_ | refine i1 _ _ hq ?_ | (refine cs_ ?_ ?_<;>intro hc) | refine cj_ ?_ | fail)<;>(try refine ev_ ?_)) | with_reducible exact ti_)
  all_goals (rw [Option.getD_some,← qz1];first | done | rfl | exact ⟨rfl,rfl⟩)
theorem qbhk (c:K) (hg:c.good):qbt Tryz.prog 70 (curE c) (curE (decK c).1) [.ptr 0 0] (enc ((decK c).2.getD N0)):=by
 refine qj c0fa 1 (by simp) (by simp) ?_
 unfold decK
 repeat' (first | refine vs_ ?_ | ((first | refine vr_ ?_ | refine qbhx hg ?_ | (refine cs_ ?_ ?_<;>intro hc) | refine cj_ ?_ | fail)<;>(try refine ev_ ?_)) | with_reducible exact ti_)
 all_goals first | rfl | exact ⟨rfl,rfl⟩
def qbyv (s:List UInt8):N×Int×Int:=qjt qs0 s
def qb2v (s:List UInt8):N×Int×Int:=qjt decK s
end Go.Proofs.YtlmcofjcpadmiaaGreat
