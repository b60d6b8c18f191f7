/- Texts of this proof, joined. -/
import Derived.Test.YtkenggenkmfopaaGreatNaw
import Derived.Test.YtkenggenkmfopaaGreatNbf
set_option linter.unusedVariables false
set_option linter.unusedSimpArgs false

/- the reference's substitutions: New, size, put, Apply -/
set_option maxRecDepth 4000
namespace Go.Proofs.YtkenggenkmfopaaGreat
open Go Go.RowKit Go.V

theorem qj9:∀ (l s:List Pr) (p:Pr),addR s (l ++ [p]) = (setR (addR s l) p.v p.ty).1
 | [],s,p=>rfl
 | x :: l,s,p=>by rw [List.cons_append,addR,addR,qj9 l]
theorem qlv {l:List Pr} {i:Nat} (h:i < l.length):l.take (i + 1) = l.take i ++ [l.getD i R0]:=by
 rw [List.take_add_one,List.getD_eq_getElem?_getD,List.getElem?_eq_getElem h];rfl
theorem qwy {l:List Pr} {i:Nat} (h:i < l.length) (s:List Pr):addR s (l.take (i + 1)) = (setR (addR s (l.take i)) (l.getD i R0).v (l.getD i R0).ty).1:=by rw [qlv h,qj9]
set_option maxRecDepth 4000

set_option maxRecDepth 4000

set_option maxRecDepth 4000

theorem qhe {l:List Pr} {i:Nat} (h:i < l.length):l.take (i + 1) = l.take i ++ [l.getD i R0]:=by
 rw [List.take_add_one,List.getD_eq_getElem?_getD,List.getElem?_eq_getElem h];rfl
def smlR (l:List Pr):Prop:=∀ p∈l,szY p.ty≤20000∧dpY p.ty≤300
theorem qns {l:List Pr} (hs:smlR l) (hl:l.length≤100000):VCalls Tryz.prog 39 [] [.sl 4 (qbq l)] fun H' o=>H' = [subE (newR l)]∧o = .val (.ptr 0 0):=by
 refine qc c0di 1 (by simp) (by simp) ?_
 repeat' (first | refine vs_ ?_ | ((first | refine vr_ ?_ | (refine cs_ ?_ ?_<;>intro hc) | refine cj_ ?_ | simp (disch:=omega) only [encs_getN,qb])<;>(try refine ev_ ?_)) | with_reducible exact ti_)
 refine qyo 0 rfl rfl ?_
 refine qp (S:=Nat) (fun i=>i≤l.length) (fun i=>(⟨[(3,.ptr 0 0),(8,.sl 4 (qbq l)),(9,.int .i64 l.length),(10,.int .i64 i)],[]⟩,[subE (newR (l.take i))])) (fun i=>l.length - i) ?_ fun i hi=>?_
 ·refine qm 0 [0] (Nat.zero_le _) rfl (by simp) ?_ ?_ ?_<;>simp only [List.take_zero,newR,addR,qiq]<;>(try refine ev_ ?_)<;>(try with_reducible exact ti_)<;>(try simp (disch:=omega) only [qb,and_true,true_and])
  all_goals rfl
 ·by_cases hlt:i < l.length
  ·have hok:=qkc (l.take i)
   have hln:=q1u (l.take i)
   rw [List.length_take] at hln
   have hm:=hs _ (qfz hlt)
   have hn:newR (l.take (i + 1)) = (setR (newR (l.take i)) (l.getD i R0).v (l.getD i R0).ty).1:=by rw [qhe hlt,newR,qj9];rfl
   have hp:=qb3 hlt
   repeat' (first | refine vs_ ?_ | ((first | refine vr_ ?_ | fail)<;>(try simp (disch:=first | omega | (simp only [List.length_set,List.length_append,List.length_cons,List.length_nil];done) | (simp only [List.length_set,List.length_append,List.length_cons,List.length_nil];omega)) only [hp,qb,go_sem,↓reduceIte])) | ((first | simp (disch:=omega) only [hp] | (refine cs_ ?_ ?_<;>intro hc) | refine cj_ ?_ | simp (disch:=omega) only [encs_getN,qb] | refine qbl 0 (qht hok.1 (by omega) _ hm.1 hm.2) ?_)<;>(try refine ev_ ?_)) | with_reducible exact ti_)
   ·refine qm (i + 1) [0] ⟨by omega,by omega⟩ rfl (by simp) ?_ ?_ ?_<;>simp only [hn]<;>(try refine ev_ ?_)<;>(try with_reducible exact ti_)<;>(try simp (disch:=omega) only [qb,and_true,true_and])
    all_goals rw [qbb (by omega) (by omega),Int.natCast_add];rfl
   ·exfalso;omega
  ·have hie:i = l.length:=by omega
   subst hie
   rw [List.take_length]
   repeat' (first | refine vs_ ?_ | ((first | refine vr_ ?_ | (refine cs_ ?_ ?_<;>intro hc) | refine cj_ ?_ | simp (disch:=omega) only [encs_getN,qb])<;>(try refine ev_ ?_)) | with_reducible exact ti_)
   all_goals (exfalso;omega)
set_option maxRecDepth 4000

theorem qpk {R:World->(Nat->Nat->Prop)->Gh->Prop} {b:Bool} {s:List Pr} (hG:∀ v,VM Tryz.prog 123 (.cus R) (.cus R) [svA b 0,.int .i64 v] (getV s v)) (hs:okS s) {t:Ty} (h1:szY t≤20000) (h2:dpY t≤300) :
 VM Tryz.prog 53 (.cus R) (.cus R) [svA b 0,encY t] (typA (appR s t)):=by
 refine qc c0dh 1 (by simp) (by simp) ?_
 have hLg:=qc5 h1 h2
 rw [← qbf9 hs]
 by_cases hlg:qf t = true
 ·obtain ⟨q1,q2,q3⟩:=(qs t).1 hlg
  have hput:=qbbm hG (qbba hs) t (qdh t q3) h1 4096 1 (by omega) (by omega) (by omega) (by omega)
  rw [hlg] at hLg
  by_cases hn:(bput s t 4096 1).1 < 0
  ·have hnd:decide ((bput s t 4096 1).1 < 0) = true:=decide_eq_true hn
   rw [appP,if_pos hlg,if_pos hn]
   repeat' (first | refine vs_ ?_ | ((first | refine vr_ ?_ | fail)<;>(try simp only [hnd,go_sem,↓reduceIte])) | ((first | (refine cs_ ?_ ?_<;>intro hc) | refine cj_ ?_ | fail | refine qa hLg fun _=>?_ | refine qqq 3 0 hput (by simp) ?_)<;>(try refine ev_ ?_)) | with_reducible exact ti_)
   all_goals rfl
  ·have hnd:decide ((bput s t 4096 1).1 < 0) = false:=decide_eq_false hn
   rw [appP,if_pos hlg,if_neg hn]
   repeat' (first | refine vs_ ?_ | ((first | refine vr_ ?_ | fail)<;>(try simp only [hnd,go_sem,↓reduceIte])) | ((first | (refine cs_ ?_ ?_<;>intro hc) | refine cj_ ?_ | fail | refine qa hLg fun _=>?_ | refine qqq 3 0 hput (by simp) ?_)<;>(try refine ev_ ?_)) | with_reducible exact ti_)
   all_goals rfl
 ·rw [appP,if_neg hlg]
  have hlg:qf t = false:=by simpa using hlg
  rw [hlg] at hLg
  repeat' (first | refine vs_ ?_ | ((first | refine vr_ ?_ | refine qa hLg fun _=>?_ | (refine cs_ ?_ ?_<;>intro hc) | refine cj_ ?_ | fail)<;>(try refine ev_ ?_)) | with_reducible exact ti_)
  all_goals rfl
set_option maxRecDepth 4000

def zR:AV:=.agg [.int .i64 0,.str [],.int .i64 0,.nils]
def cpR (l:List Pr) (i:Nat):List AV:=qbq (l.take i) ++ List.replicate (l.length - i) zR
theorem qbhv {l:List Pr} {i:Nat} (h:i≤l.length):(cpR l i).length = l.length:=by
 rw [cpR,List.length_append,qd4,List.length_take,List.length_replicate];omega
theorem qbv2 (l:List Pr):cpR l 0 = List.replicate l.length zR:=by rw [cpR,List.take_zero,q00,Nat.sub_zero];rfl
theorem qbge (l:List Pr):cpR l l.length = qbq l:=by rw [cpR,List.take_length,Nat.sub_self,List.replicate_zero,List.append_nil]
theorem qzr {l:List Pr} {i:Nat} (h:i < l.length):(cpR l i).set i (encR (l.getD i R0)) = cpR l (i + 1):=by
 have h2:(qbq (l.take i)).length = i:=by rw [qd4,List.length_take];omega
 obtain ⟨k,hk⟩:∃ k,l.length - i = k + 1:=⟨l.length - i - 1,by omega⟩
 have hk2:l.length - (i + 1) = k:=by omega
 rw [cpR,cpR,hk,hk2,List.replicate_succ,qhe h,← qwd,List.set_append_right _ _ (by omega),h2,Nat.sub_self,List.set_cons_zero,List.append_assoc]
 rfl
theorem qth (k:Nat) (l:List Pr) (i:Nat):AV.bds k (cpR l i) = true:=by
 rw [cpR,qhi,qda,qcn]
 simp [zR,AV.bd,AV.bds]
theorem qq8 (σ:Nat->Nat) (l:List Pr) (i:Nat):AV.rens σ (cpR l i) = cpR l i:=ql (m:=0) (fun i hi=>by omega) _ (qth 0 l i)
attribute [go_sem] qth qq8
theorem qyz:VCalls Tryz.prog 81 [.blk [.nils]] [.ptr 0 0] (qci fun H' o=>H' = [subE []]∧o = .val (.sl 4 (qbq []))):=by
 refine qc c0dg 1 (by simp) (by simp) ?_
 repeat' (first | refine vs_ ?_ | ((first | refine vr_ ?_ | (refine cs_ ?_ ?_<;>intro hc) | refine cj_ ?_ | simp (disch:=omega) only [encs_getN,qb])<;>(try refine ev_ ?_)) | with_reducible exact ti_)
 refine qp (S:=Unit) (fun _=>True) (fun _=>(⟨[(3,.row 1 0),(18,.int .i64 (0:Nat)),(19,.int .i64 (0:Nat))],[]⟩,[.blk [.nils],.mrow 4 []])) (fun _=>0) ?_ fun x hx=>?_
 ·refine qm () [0,1] trivial rfl (by simp) ?_ ?_ ?_<;>(try refine ev_ ?_)<;>(try with_reducible exact ti_)<;>(try simp (disch:=omega) only [qb,and_true,true_and])
  all_goals rfl
 ·refine qch 1 rfl (fun v hv=>by simp at hv) ?_
  repeat' (first | refine vs_ ?_ | ((first | refine vr_ ?_ | (refine cs_ ?_ ?_<;>intro hc) | refine cj_ ?_ | simp (disch:=omega) only [encs_getN,qb])<;>(try refine ev_ ?_)) | with_reducible exact ti_)
  ·exact absurd hc (by omega)
  ·exact qgc rfl (by simp) rfl ⟨rfl,rfl⟩
theorem q58 {s:List Pr} (hs:s≠[]) (hl:s.length≤100000) (ho:smlR s):VCalls Tryz.prog 81 [.blk [.row 1 s.length],qby s] [.ptr 0 0] (qci fun H' o=>H' = [subE s]∧o = .val (.sl 4 (qbq s))):=by
 refine qc c0dg 2 (by simp) (by simp) ?_
 repeat' (first | refine vs_ ?_ | ((first | refine vr_ ?_ | (refine cs_ ?_ ?_<;>intro hc) | refine cj_ ?_ | simp (disch:=omega) only [encs_getN,qb])<;>(try refine ev_ ?_)) | with_reducible exact ti_)
 have hm:s.length≤maxLen:=by unfold maxLen;omega
 refine ⟨hm,⟨by omega,by omega⟩,?_⟩
 repeat' (first | refine vs_ ?_ | ((first | refine vr_ ?_ | (refine cs_ ?_ ?_<;>intro hc) | refine cj_ ?_ | simp (disch:=omega) only [encs_getN,qb])<;>(try refine ev_ ?_)) | with_reducible exact ti_)
 refine qp (S:=Nat) (fun i=>i≤s.length) (fun i=>(⟨[(3,.row 2 s.length),(17,.row 1 s.length),(18,.int .i64 s.length),(19,.int .i64 i)],[]⟩,[.blk [.row 1 s.length],qby s,.mrow 4 (cpR s i)])) (fun i=>s.length - i) ?_ fun i hi=>?_
 ·refine qm 0 [0,1,2] (Nat.zero_le _) rfl (by simp) ?_ ?_ ?_<;>simp only [qbv2,zR]<;>(try refine ev_ ?_)<;>(try with_reducible exact ti_)<;>(try simp (disch:=omega) only [qb,and_true,true_and])
  all_goals
   rw [show List.replicate s.length (AV.agg [AV.int .i64 0,AV.str [],AV.int .i64 0,AV.nils]) = cpR s 0 from (qbv2 _).symm]
   exact ⟨qth _ _ _,by rw [qq8]⟩
 ·by_cases hlt:i < s.length
  ·have hp:=qb3 hlt
   have hc:=qbhv hi
   have hcp:=qdz (s.getD i R0).ty (by have:=(ho _ (qfz hlt)).1;omega)
   repeat' (first | refine vs_ ?_ | ((first | refine vr_ ?_ | fail)<;>(try simp (disch:=first | omega | (simp only [List.length_set,List.length_append,List.length_cons,List.length_nil];done) | (simp only [List.length_set,List.length_append,List.length_cons,List.length_nil];omega)) only [hp,qb,go_sem,↓reduceIte])) | ((first | simp (disch:=omega) only [hp] | (refine cs_ ?_ ?_<;>intro hc) | refine cj_ ?_ | simp (disch:=omega) only [encs_getN,qb] | refine qa hcp fun _=>?_ | refine qg hcp ?_)<;>(try refine ev_ ?_)) | with_reducible exact ti_)
   ·refine qm (i + 1) [0,1,2] ⟨by omega,by omega⟩ rfl (by simp) ?_ ?_ ?_<;>simp only [← qzr hlt]<;>(try refine ev_ ?_)<;>(try with_reducible exact ti_)<;>(try simp (disch:=omega) only [qb,and_true,true_and])
    all_goals (rw [qzr hlt];exact ⟨qth _ _ _,by rw [qq8]⟩)
   ·exfalso;omega
  ·have hie:i = s.length:=by omega
   subst hie
   rw [qbge]
   refine qch 2 rfl (qla _) ?_
   repeat' (first | refine vs_ ?_ | ((first | refine vr_ ?_ | (refine cs_ ?_ ?_<;>intro hc) | refine cj_ ?_ | simp (disch:=omega) only [encs_getN,qb])<;>(try refine ev_ ?_)) | with_reducible exact ti_)
   all_goals try (exfalso;omega)
   all_goals exact qdt 1 hs rfl rfl (by simp) (by simp) (by simp [AV.bd,qda]) ⟨rfl,rfl⟩
theorem qea {s:List Pr} (hl:s.length≤100000) (ho:smlR s):VM Tryz.prog 81 (subE s) (subE s) [.ptr 0 0] (.sl 4 (qbq s)):=by
 by_cases hs:s = []
 ·subst hs
  exact qcd (by rw [qiq];exact qyz) rfl
 ·exact qcd (by have:=q58 hs hl ho;rwa [← qmn hs] at this) rfl
end Go.Proofs.YtkenggenkmfopaaGreat
