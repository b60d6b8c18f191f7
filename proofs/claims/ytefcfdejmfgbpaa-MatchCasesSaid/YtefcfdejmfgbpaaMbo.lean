/- A text of this proof. -/
import Derived.Test.YtefcfdejmfgbpaaMbm
import Derived.Test.YtefcfdejmfgbpaaMbk
import Derived.Test.YtefcfdejmfgbpaaMbn
set_option linter.unusedVariables false
set_option linter.unusedSimpArgs false

/- matching: the law of cases -/
set_option maxRecDepth 4000
namespace Go.Proofs.Ytefcfdejmfgbpaa
open Go Go.RowKit Go.V

theorem qbav {H:List Ent} {rs:List AV} {l s:List Pr} {Kk:Md->AV->List Ent->Prop} (hs:smlR l) (hl:l.length≤100000) (e:newR l = s) (hq:Kk (.lay (subE s)) (.ptr H.length 0) (H ++ [subE s])):DApp Try.prog H (.fn 6 [] []) [.sl 4 (qbq l)] rs Kk :=
 .inr (.inr (.inr (.inr ⟨_,fun H₀=>qbfg hs hl e ⟨rfl,rfl⟩,hq⟩)))
def mcSt (l:List Pr) (p t u:Ty):AF×List Ent:=(⟨[(0,.sl 4 (qbq l)),(4,.ptr 0 0),(7,.ptr 1 0),(8,.ptr 2 0)],[]⟩,[.blk (yc p),.blk (yc t),.blk (yc u)])
theorem qo4 {l:List Ty} (h:qdk l = true) (hl:l.length≤maxLen:=by simp [maxLen]):∀ x∈l,szY x≤20000∧dpY x≤300:=fun x hx=>by
 have:=q4f hl h
 have h1:=qk1 hx
 have h2:=qnu hx
 omega
set_option maxHeartbeats 2000000 in
theorem qiv (l:List Pr) (p t u:Ty):qo Try.prog 3 [.sl 4 (qbq l),encY p,.agg (yc t ++ yc u)] (.bool true):=by
 refine qj c0a (by simp) (by simp only [AV.bds,AV.bd,qcz,qbd,qb0,List.cons_append,List.nil_append,Bool.and_true]) rfl fun hw=>?_
 have h10:decide ((1:Int) = 0) = false:=rfl
 have hll:l.length≤maxLen:=(qyx hw.1).1
 unfold k0a
 generalize hz:IC.seq qr8 _ = z1
 repeat' (first | refine vs_ ?_ | ((first | refine vr_ ?_ | (refine cs_ ?_ ?_<;>intro hc) | refine cj_ ?_ | simp (disch:=omega) only [encs_getN,qc])<;>(try refine ev_ ?_)) | with_reducible exact ti_)
 subst hz
 refine qc1 (S:=Unit) (fun _=>True) (fun _=>mcSt l p t u) ?_ fun _ _=>?_
 ·unfold qr8
  refine quj 4 5 (by rfl) ?_ ?_
  ·simp only [qiz,Nat.zero_add,Nat.reduceAdd,Nat.reduceEqDiff,if_false,if_true,List.filter,decide_true,decide_false,ne_eq,not_true_eq_false,not_false_eq_true]
   (refine ev_ ?_;(try with_reducible exact ti_))
   refine ⟨⟨by decide,by decide⟩,⟨by decide,by decide⟩,?_⟩
   refine qu () [0,2,3] trivial rfl (by simp) ?_ ?_ ?_<;>simp only [mcSt]<;>(try refine ev_ ?_)<;>(try with_reducible exact ti_)<;>(try simp (disch:=omega) only [qc,and_true,true_and])
  ·simp only [qff,qdj,posL,List.getElem?_cons_succ,List.getElem?_cons_zero,List.map_cons,List.map_nil,Nat.reduceAdd,Nat.reduceEqDiff,Nat.reduceLT,if_false,if_true,ne_eq,not_true_eq_false,not_false_eq_true,and_true,and_false,true_and,false_and]
   (refine ev_ ?_;(try with_reducible exact ti_))
   refine ⟨⟨by decide,by decide⟩,⟨by decide,by decide⟩,?_⟩
   refine qu () [0,3,2] trivial rfl (by simp) ?_ ?_ ?_<;>simp only [mcSt]<;>(try refine ev_ ?_)<;>(try with_reducible exact ti_)<;>(try simp (disch:=omega) only [qc,and_true,true_and])
 unfold mcSt
 by_cases hgt:10 < (l.length:Int)
 ·repeat' (first | refine vs_ ?_ | ((first | refine vr_ ?_ | fail)<;>(try simp only [hgt,decide_true,go_sem,↓reduceIte])) | ((first | (refine cs_ ?_ ?_<;>intro hc) | refine cj_ ?_ | simp (disch:=omega) only [encs_getN,qc] | refine qa qc2 fun _=>?_ | refine qd qc2 ?_)<;>(try refine ev_ ?_)) | with_reducible exact ti_)
 by_cases hf:qdk [p,t,u] = true
 case neg =>
  have hf:qdk [p,t,u] = false:=by simpa using hf
  repeat' (first | refine vs_ ?_ | ((first | refine vr_ ?_ | fail)<;>(try simp only [hgt,decide_false,go_sem,↓reduceIte])) | ((first | (refine cs_ ?_ ?_<;>intro hc) | refine cj_ ?_ | simp (disch:=omega) only [encs_getN,qc] | refine qa (qgy hf) fun _=>?_ | refine qa qc2 fun _=>?_ | refine qd (qgy hf) ?_ | refine qd qc2 ?_)<;>(try refine ev_ ?_)) | with_reducible exact ti_)
 generalize hz:IC.seq qod _ = z1
 repeat' (first | refine vs_ ?_ | ((first | refine vr_ ?_ | fail)<;>(try simp only [hgt,h10,decide_false,go_sem,↓reduceIte])) | ((first | (refine cs_ ?_ ?_<;>intro hc) | refine cj_ ?_ | simp (disch:=omega) only [encs_getN,qc] | refine qa (qfj hf) fun _=>?_ | refine qd (qfj hf) ?_)<;>(try refine ev_ ?_)) | with_reducible exact ti_)
 refine qbi (S:=Nat) (fun i=>i≤l.length∧∀ j,j < i->qdk [(l.getD j R0).ty] = true) (fun i=>(⟨[(0,.sl 4 (qbq l)),(4,.ptr 0 0),(7,.ptr 1 0),(8,.ptr 2 0),(9,.int .i64 i)],[]⟩,[.blk (yc p),.blk (yc t),.blk (yc u)])) (fun i=>l.length - i) ?_ fun i hi=>?_
 ·refine qu 0 [0,1,2] ⟨Nat.zero_le _,fun j hj=>by omega⟩ rfl (by simp) ?_ ?_ ?_<;>(try refine ev_ ?_)<;>(try with_reducible exact ti_)<;>(try simp (disch:=omega) only [qc,and_true,true_and])
 obtain ⟨hi,hall⟩:=hi
 by_cases hlt:i < l.length
 ·have hp:=qc9 hlt
  by_cases hfi:qdk [(l.getD i R0).ty] = true
  ·repeat' (first | refine vs_ ?_ | ((first | refine vr_ ?_ | fail)<;>(try simp (disch:=first | omega | (simp only [List.length_set,List.length_append,List.length_cons,List.length_nil];done) | (simp only [List.length_set,List.length_append,List.length_cons,List.length_nil];omega)) only [hp,qc,h10,go_sem,↓reduceIte])) | ((first | simp (disch:=omega) only [hp] | (refine cs_ ?_ ?_<;>intro hc) | refine cj_ ?_ | simp (disch:=omega) only [encs_getN,qc] | refine qa (qfj hfi) fun _=>?_ | refine qd (qfj hfi) ?_)<;>(try refine ev_ ?_)) | with_reducible exact ti_)
   all_goals try (exfalso;omega)
   refine qu (i + 1) [0,1,2] ⟨⟨by omega,fun j hj=>?_⟩,by omega⟩ rfl (by simp) ?_ ?_ ?_<;>(try refine ev_ ?_)<;>(try with_reducible exact ti_)<;>(try simp (disch:=omega) only [qc,and_true,true_and])
   rcases Nat.lt_or_ge j i with h | h
   ·exact hall j h
   ·rw [show j = i by omega];exact hfi
  ·have hfi:qdk [(l.getD i R0).ty] = false:=by simpa using hfi
   repeat' (first | refine vs_ ?_ | ((first | refine vr_ ?_ | fail)<;>(try simp (disch:=first | omega | (simp only [List.length_set,List.length_append,List.length_cons,List.length_nil];done) | (simp only [List.length_set,List.length_append,List.length_cons,List.length_nil];omega)) only [hp,qc,go_sem,↓reduceIte])) | ((first | simp (disch:=omega) only [hp] | (refine cs_ ?_ ?_<;>intro hc) | refine cj_ ?_ | simp (disch:=omega) only [encs_getN,qc] | refine qa (qgy hfi) fun _=>?_ | refine qa qc2 fun _=>?_ | refine qd (qgy hfi) ?_ | refine qd qc2 ?_)<;>(try refine ev_ ?_)) | with_reducible exact ti_)
   all_goals try (exfalso;omega)
 ·have hie:i = l.length:=by omega
  subst hie
  repeat' (first | refine vs_ ?_ | ((first | refine vr_ ?_ | fail)<;>(try simp only [h10,go_sem,↓reduceIte])) | ((first | (refine cs_ ?_ ?_<;>intro hc) | refine cj_ ?_ | simp (disch:=omega) only [encs_getN,qc])<;>(try refine ev_ ?_)) | with_reducible exact ti_)
  all_goals try (exfalso;omega)
  subst hz
  have hm:=qo4 hf
  obtain ⟨p1,p2⟩:=hm p (by simp)
  obtain ⟨t1,t2⟩:=hm t (by simp)
  obtain ⟨u1,u2⟩:=hm u (by simp)
  have hsm:smlR l:=fun q hq=>by
   obtain ⟨j,hj⟩:=List.mem_iff_getElem?.1 hq
   have hjl:=(List.getElem?_eq_some_iff.1 hj).1
   have:=qo4 (hall j hjl) (by simp [maxLen]) q.ty (by
    rw [List.mem_singleton,List.getD_eq_getElem?_getD,hj];rfl)
   exact this
  have hS:=qks l
  have hSl:=qp6 l
  obtain ⟨S,hnS⟩:∃ S,newR l = S:=⟨_,rfl⟩
  rw [hnS] at hS hSl
  have hAS:=qyp hS (by omega) p1 p2
  have hT0:∀ p:Ty×Int,typA p = .tup [encY p.1,.int .i64 p.2]:=fun _=>rfl
  rw [hT0] at hAS
  have hb1:AV.bd 0 (.tup [encY (appR S p).1,.int .i64 (appR S p).2]) = true:=q0y 0 _
  have hby:∀ t,AV.bds 0 [encY t] = true:=fun t=>by simp only [AV.bds,qbd,Bool.and_true]
  have hcase:(appR S p).2 = 0->abvP p (appR S p).1 = true:=fun he=>qwd hS he
  have hsz:(appR S p).2 = 0->szY (appR S p).1≤20000∧dpY (appR S p).1≤300:=fun he=>qwg hS he
  generalize appR S p = X at hAS hb1 hcase hsz
  refine qc1 (S:=Unit) (fun _=>True) (fun _=>(⟨[(0,.sl 4 (qbq l)),(4,.ptr 0 0),(7,.ptr 1 0),(8,.ptr 2 0),(10,.ptr 3 0),(11,.int .i64 X.2)],[]⟩,[.blk (yc p),.blk (yc t),.blk (yc u),.blk (yc X.1)])) ?_ fun _ _=>?_
  ·unfold qod
   refine quj 1 7 (by rfl) ?_ ?_
   ·simp only [qiz,Nat.zero_add,Nat.reduceAdd,Nat.reduceEqDiff,if_false,if_true,List.filter,decide_true,decide_false,ne_eq,not_true_eq_false,not_false_eq_true]
    (refine ev_ ?_;(try with_reducible exact ti_))
    refine qbav hsm (by omega) hnS ?_
    (refine ev_ ?_;(try with_reducible exact ti_))
    refine qvr 3 hAS (hby _) hb1 ?_
    (refine ev_ ?_;(try with_reducible exact ti_))
    refine qu () [0,1,2,4] trivial rfl (by simp) ?_ ?_ ?_<;>(try refine ev_ ?_)<;>(try with_reducible exact ti_)<;>(try simp (disch:=omega) only [qc,and_true,true_and])
   ·simp only [qff,qdj,posL,List.getElem?_cons_succ,List.getElem?_cons_zero,List.map_cons,List.map_nil,Nat.reduceAdd,Nat.reduceEqDiff,Nat.reduceLT,if_false,if_true,ne_eq,not_true_eq_false,not_false_eq_true,and_true,and_false,true_and,false_and]
    (refine ev_ ?_;(try with_reducible exact ti_))
    refine qbav hsm (by omega) hnS ?_
    (refine ev_ ?_;(try with_reducible exact ti_))
    refine qvr 4 hAS (hby _) hb1 ?_
    (refine ev_ ?_;(try with_reducible exact ti_))
    refine qu () [0,1,2,3] trivial rfl (by simp) ?_ ?_ ?_<;>(try refine ev_ ?_)<;>(try with_reducible exact ti_)<;>(try simp (disch:=omega) only [qc,and_true,true_and])
  have b1:=qbl p1 p2 t1 t2
  have b2:=qbl t1 t2 u1 u2
  have b3:=qbl p1 p2 u1 u2
  have htr:abvP p t = true->abvP t u = true->abvP p u = true:=fun h h'=>qv1 h h'
  by_cases he:X.2 = 0
  ·have b0:=qbl p1 p2 (hsz he).1 (hsz he).2
   rw [hcase he] at b0
   have hd:decide (X.2 = 0) = true:=decide_eq_true he
   generalize abvP p t = x at b1 htr
   generalize abvP t u = y at b2 htr
   generalize abvP p u = z at b3 htr
   cases x<;>cases y<;>cases z
   all_goals (repeat' (first | refine vs_ ?_ | ((first | refine vr_ ?_ | fail)<;>(try simp only [hd,he,decide_true,decide_false,go_sem,↓reduceIte])) | ((first | (refine cs_ ?_ ?_<;>intro hc) | refine cj_ ?_ | simp (disch:=omega) only [encs_getN,qc] | refine qa b0 fun _=>?_ | refine qa b1 fun _=>?_ | refine qa b2 fun _=>?_ | refine qa b3 fun _=>?_ | refine qa qc2 fun _=>?_ | refine qd b0 ?_ | refine qd b1 ?_ | refine qd b2 ?_ | refine qd b3 ?_ | refine qd qc2 ?_)<;>(try refine ev_ ?_)) | with_reducible exact ti_))
   all_goals first | (exfalso;revert htr;simp;done) | trace_state
  ·have hd:decide (X.2 = 0) = false:=decide_eq_false he
   generalize abvP p t = x at b1 htr
   generalize abvP t u = y at b2 htr
   generalize abvP p u = z at b3 htr
   cases x<;>cases y<;>cases z
   all_goals (repeat' (first | refine vs_ ?_ | ((first | refine vr_ ?_ | fail)<;>(try simp only [hd,he,decide_true,decide_false,go_sem,↓reduceIte])) | ((first | (refine cs_ ?_ ?_<;>intro hc) | refine cj_ ?_ | simp (disch:=omega) only [encs_getN,qc] | refine qa b1 fun _=>?_ | refine qa b2 fun _=>?_ | refine qa b3 fun _=>?_ | refine qa qc2 fun _=>?_ | refine qd b1 ?_ | refine qd b2 ?_ | refine qd b3 ?_ | refine qd qc2 ?_)<;>(try refine ev_ ?_)) | with_reducible exact ti_))
   all_goals first | (exfalso;revert htr;simp;done) | trace_state
theorem qh8 (l:List Pr) (p:Ty) (x:Ty×Ty):qo Try.prog 3 [.sl 4 (qbq l),encY p,.agg (yc x.1 ++ yc x.2)] (.bool true):=qiv l p x.1 x.2
end Go.Proofs.Ytefcfdejmfgbpaa
