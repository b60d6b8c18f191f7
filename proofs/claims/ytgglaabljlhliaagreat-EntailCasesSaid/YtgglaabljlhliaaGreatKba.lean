/- Texts of this proof, joined. -/
import Derived.Test.YtgglaabljlhliaaGreatKay
import Derived.Test.YtgglaabljlhliaaGreatKaz
set_option linter.unusedVariables false
set_option linter.unusedSimpArgs false

/- substitutions: a type in new memory; the search; the row of pairs that a substitution is -/
set_option maxRecDepth 4000
namespace Go.Proofs.YtgglaabljlhliaaGreat
open Go Go.RowKit Go.V

def zY:AV:=.agg [.str [],.int .i64 0,.nils]
def cpE (l:List Ty) (i:Nat):List AV:=qq (l.take i) ++ List.replicate (l.length - i) zY
theorem qbf3 {l:List Ty} {i:Nat} (h:i≤l.length):(cpE l i).length = l.length:=by
 rw [cpE,List.length_append,qbg,List.length_take,List.length_replicate];omega
theorem qb0j (l:List Ty):cpE l 0 = List.replicate l.length zY:=by rw [cpE,List.take_zero,qq,Nat.sub_zero];rfl
theorem qbr0 (l:List Ty):cpE l l.length = qq l:=by rw [cpE,List.take_length,Nat.sub_self,List.replicate_zero,List.append_nil]
theorem q3m {l:List Ty} {i:Nat} (h:i < l.length):(cpE l i).set i (encY (l.getD i Y0)) = cpE l (i + 1):=by
 have h1:l.take (i + 1) = l.take i ++ [l.getD i Y0]:=by
  rw [List.take_add_one,List.getD_eq_getElem?_getD,List.getElem?_eq_getElem h];rfl
 have h2:(qq (l.take i)).length = i:=by rw [qbg,List.length_take];omega
 obtain ⟨k,hk⟩:∃ k,l.length - i = k + 1:=⟨l.length - i - 1,by omega⟩
 have hk2:l.length - (i + 1) = k:=by omega
 rw [cpE,cpE,hk,hk2,List.replicate_succ,h1,← qel,List.set_append_right _ _ (by omega),h2,Nat.sub_self,List.set_cons_zero,List.append_assoc]
 rfl
theorem qvl (k:Nat) (l:List Ty) (i:Nat):AV.bds k (cpE l i) = true:=by
 rw [cpE,qmt,qb8,qb2]
 simp [zY,AV.bd,AV.bds]
theorem qt4 (σ:Nat->Nat) (l:List Ty) (i:Nat):AV.rens σ (cpE l i) = cpE l i:=qj (m:=0) (fun i hi=>by omega) _ (qvl 0 l i)
attribute [go_sem] qvl qt4
theorem qi2 (l:List Ty):∀ v∈qq l,v.flat:=fun v hv=>by
 rw [qdd] at hv
 obtain ⟨t,_,rfl⟩:=List.mem_map.1 hv
 exact .inl ⟨qu3 t,qww t⟩
def cpSt (t:Ty) (i:Nat):AF×List Ent:=(⟨[(1,.ptr 0 0),(2,.ptr 1 0),(3,.row 2 t.args.length),(11,.sl 3 (qq t.args)),(12,.int .i64 t.args.length),(13,.int .i64 i)],[]⟩,[.blk (yc t),.blk [.str [],.int .i64 0,.nils],.mrow 3 (cpE t.args i)])
theorem qfl:∀ t,szY t≤1000000->qg Tryz.prog 135 [encY t] (encY t):=by
 refine Ty.ind fun t ih hb=>?_
 refine qd c0bc (by simp) (by simp only [go_sem]) (qb7 0 _) fun hw=>?_
 have hk:=qcs hw.1
 have hsz:=qfh t
 have hal:=qhx t.args
 have ih':∀ i,i < t.args.length->qg Tryz.prog 135 [encY (t.args.getD i Y0)] (encY (t.args.getD i Y0)):=fun i hi=>ih _ (qbi hi) (by have:=qgt (qbi hi);omega)
 repeat' (first | refine vs_ ?_ | ((first | refine vr_ ?_ | (refine cs_ ?_ ?_<;>intro hc) | refine cj_ ?_ | simp (disch:=omega) only [encs_getN,qb])<;>(try refine ev_ ?_)) | with_reducible exact ti_)
 refine qi (S:=Nat) (fun i=>i≤t.args.length) (cpSt t) (fun i=>t.args.length - i) ?_ fun i hi=>?_
 ·refine qf 0 [0,1,2] (Nat.zero_le _) rfl (by simp) ?_ ?_ ?_<;>simp only [cpSt,qb0j,zY]<;>(try refine ev_ ?_)<;>(try with_reducible exact ti_)<;>(try simp (disch:=omega) only [qb,and_true,true_and])
  all_goals
   rw [show List.replicate t.args.length (AV.agg [.str [],.int .i64 0,.nils]) = cpE t.args 0 from (qb0j _).symm]
   exact ⟨qvl _ _ _,by rw [qt4]⟩
 ·unfold cpSt
  by_cases hlt:i < t.args.length
  ·have hc:=qbf3 hi
   repeat' (first | refine vs_ ?_ | ((first | refine vr_ ?_ | fail)<;>(try simp (disch:=first | omega | (simp only [List.length_set,List.length_append,List.length_cons,List.length_nil];done) | (simp only [List.length_set,List.length_append,List.length_cons,List.length_nil];omega)) only [qw,qb,go_sem,↓reduceIte])) | ((first | (refine cs_ ?_ ?_<;>intro hc) | refine cj_ ?_ | simp (disch:=omega) only [encs_getN,qb] | refine qa (ih' i hlt) fun _=>?_)<;>(try refine ev_ ?_)) | with_reducible exact ti_)
   ·refine qf (i + 1) [0,1,2] ⟨by omega,by omega⟩ rfl (by simp) ?_ ?_ ?_<;>simp only [cpSt,← q3m hlt]<;>(try refine ev_ ?_)<;>(try with_reducible exact ti_)<;>(try simp (disch:=omega) only [qb,and_true,true_and])
    all_goals (rw [q3m hlt];exact ⟨qvl _ _ _,by rw [qt4]⟩)
   ·omega
  ·have hi':i = t.args.length:=by omega
   subst hi'
   rw [qbr0]
   refine qk8 2 rfl (qi2 _) ?_
   repeat' (first | refine vs_ ?_ | ((first | refine vr_ ?_ | (refine cs_ ?_ ?_<;>intro hc) | refine cj_ ?_ | simp (disch:=omega) only [encs_getN,qb])<;>(try refine ev_ ?_)) | with_reducible exact ti_)
   omega
set_option maxRecDepth 4000

def cmpI (a b:Int):Int:=if a < b then -1 else if b < a then 1 else 0
theorem qbv1 (p:Pr) (v:Int):qg Tryz.prog 144 [encR p,.int .i64 v] (.int .i64 (cmpI p.v v)):=by
 refine qd c0bb (by simp) (by simp only [go_sem]) rfl fun hw=>?_
 repeat' (first | refine vs_ ?_ | ((first | refine vr_ ?_ | (refine cs_ ?_ ?_<;>intro hc) | refine cj_ ?_ | fail)<;>(try refine ev_ ?_)) | with_reducible exact ti_)
 ·rw [cmpI,if_pos (by assumption)]
 ·rw [cmpI,if_neg (by omega),if_pos (by omega)]
 ·rw [cmpI,if_neg (by omega),if_neg (by omega)]
theorem qvd (a b:Int):(cmpI a b < 0) = (a < b):=by
 rw [cmpI];refine propext ?_
 split
 ·omega
 ·split<;>omega
theorem qqv (a b:Int):(cmpI a b = 0) = (a = b):=by
 rw [cmpI];refine propext ?_
 split
 ·omega
 ·split<;>omega
def qe3 (s:List Pr) (v:Int):AV:=.tup [.int .i64 (ahdR v s),.bool (qbm v s).isSome]
theorem qb45 {i j:Nat} (h:i + j≤1000000000):IntKind.i64.wrap ((IntKind.u64.wrap (IntKind.i64.wrap ((i:Int) + (j:Int)))).fdiv (2 ^ 1)) = (((i + j) / 2:Nat):Int):=by
 have e1:IntKind.i64.wrap ((i:Int) + (j:Int)) = (i:Int) + j:=qba (by omega) (by omega)
 have e2:IntKind.u64.wrap ((i:Int) + (j:Int)) = (i:Int) + j:=qin (by omega) (by omega)
 rw [e1,e2,show (2:Int) ^ 1 = 2 from rfl,Int.fdiv_eq_ediv_of_nonneg _ (by omega),qba (by omega) (by omega)]
 omega
abbrev qcf (s:List Pr):Ent:=.mrow 4 (qdb s)
theorem qh5 (s:List Pr) (k:Nat):(qcf s).bd k = true:=qeu k s
theorem qbie {s:List Pr} (hs:risR s) (hl:s.length≤100000) (v:Int):VM Tryz.prog 143 (qcf s) (qcf s) [.row 0 s.length,.int .i64 v,.fn 144 [] []] (qe3 s v):=by
 refine qt c0z 1 (by simp) (by simp) ?_
 have hA:=qo3 v s
 have hml:s.length≤maxLen:=by unfold maxLen;omega
 repeat' (first | refine vs_ ?_ | ((first | refine vr_ ?_ | (refine cs_ ?_ ?_<;>intro hc) | refine cj_ ?_ | simp (disch:=omega) only [encs_getN,qb])<;>(try refine ev_ ?_)) | with_reducible exact ti_)
 refine qi (S:=Nat×Nat) (fun x=>x.1≤ahdR v s∧ahdR v s≤x.2∧x.2≤s.length) (fun x=>(⟨[(0,.row 0 s.length),(1,.int .i64 v),(2,.fn 144 [] []),(8,.int .i64 s.length),(9,.int .i64 x.1),(10,.int .i64 x.2)],[]⟩,[qcf s])) (fun x=>x.2 - x.1) ?_ fun x hx=>?_
 ·refine qf (0,s.length) [0] ⟨Nat.zero_le _,hA,Nat.le_refl _⟩ rfl (by simp) ?_ ?_ ?_<;>(try refine ev_ ?_)<;>(try with_reducible exact ti_)<;>(try simp (disch:=omega) only [qb,and_true,true_and])
 ·obtain ⟨i,j⟩:=x
  obtain ⟨h1,h2,h3⟩:=hx
  dsimp only at h1 h2 h3
  have hh:=qb45 (i:=i) (j:=j) (by omega)
  by_cases hlt:i < j
  ·have hm:(i + j) / 2 < s.length:=by omega
   have hp:=qgd hm
   have hlo:(s.getD ((i + j) / 2) R0).v < v->(i + j) / 2 + 1≤ahdR v s:=fun h=>by
    by_cases hk:(i + j) / 2 < ahdR v s
    ·omega
    ·have:=q4q (v:=v) hs ((i + j) / 2) (by omega) hm;omega
   have hhi:¬ (s.getD ((i + j) / 2) R0).v < v->ahdR v s≤(i + j) / 2:=fun h=>by
    by_cases hk:(i + j) / 2 < ahdR v s
    ·exact absurd (qza v s _ hk) h
    ·omega
   have hw1:IntKind.i64.wrap ((((i + j) / 2:Nat):Int) + 1) = (((i + j) / 2 + 1:Nat):Int):=by rw [qba (by omega) (by omega)];omega
   repeat' (first | refine vs_ ?_ | ((first | refine vr_ ?_ | fail)<;>(try simp only [hh,hp,hw1,Int.toNat_natCast,qvd,go_sem,↓reduceIte])) | ((first | simp (disch:=omega) only [hh,Int.toNat_natCast] | simp (disch:=omega) only [hp] | simp (disch:=omega) only [qvd] | (refine cs_ ?_ ?_<;>intro hc) | refine cj_ ?_ | simp (disch:=omega) only [encs_getN,qb] | refine qa (qbv1 _ _) fun _=>?_)<;>(try refine ev_ ?_)) | with_reducible exact ti_)
   all_goals try (exfalso;omega)
   ·refine qf ((i + j) / 2 + 1,j) [0] ⟨⟨hlo (by assumption),h2,h3⟩,by dsimp only;omega⟩ rfl (by simp) ?_ ?_ ?_<;>(try refine ev_ ?_)<;>(try with_reducible exact ti_)<;>(try simp (disch:=omega) only [qb,and_true,true_and])
   ·refine qf (i,(i + j) / 2) [0] ⟨⟨h1,hhi (by assumption),by dsimp only;omega⟩,by dsimp only;omega⟩ rfl (by simp) ?_ ?_ ?_<;>(try refine ev_ ?_)<;>(try with_reducible exact ti_)<;>(try simp (disch:=omega) only [qb,and_true,true_and])
  ·have hij:i = ahdR v s:=by omega
   by_cases hin:i < s.length
   ·have hp:=qgd hin
    have hf:qe3 s v = .tup [.int .i64 i,.bool (decide ((s.getD i R0).v = v))]:=by
     rw [qe3,qj0 hs,← hij]
     by_cases hv:(s.getD i R0).v = v
     ·rw [if_pos ⟨hin,hv⟩,decide_eq_true hv];rfl
     ·rw [if_neg (fun h=>hv h.2),decide_eq_false hv];rfl
    rw [hf]
    repeat' (first | refine vs_ ?_ | ((first | refine vr_ ?_ | fail)<;>(try simp only [hp,qqv,go_sem,↓reduceIte])) | ((first | simp (disch:=omega) only [hp] | simp (disch:=omega) only [qqv] | (refine cs_ ?_ ?_<;>intro hc) | refine cj_ ?_ | simp (disch:=omega) only [encs_getN,qb] | refine qa (qbv1 _ _) fun _=>?_)<;>(try refine ev_ ?_)) | with_reducible exact ti_)
    all_goals try (exfalso;omega)
   ·have hf:qe3 s v = .tup [.int .i64 i,.bool false]:=by
     rw [qe3,qj0 hs,← hij,if_neg (fun h=>hin h.1)];rfl
    rw [hf]
    repeat' (first | refine vs_ ?_ | ((first | refine vr_ ?_ | (refine cs_ ?_ ?_<;>intro hc) | refine cj_ ?_ | simp (disch:=omega) only [encs_getN,qb])<;>(try refine ev_ ?_)) | with_reducible exact ti_)
    all_goals try (exfalso;omega)
end Go.Proofs.YtgglaabljlhliaaGreat
