/- Texts of this proof, joined. -/
import Derived.Test.YtkenggenkmfopaaGreatNbh
import Derived.Test.YtkenggenkmfopaaGreatNbi
set_option linter.unusedVariables false
set_option linter.unusedSimpArgs false

/- the state: Wait, lists, Type, Fill -/
set_option maxRecDepth 4000
namespace Go.Proofs.YtkenggenkmfopaaGreat
open Go Go.RowKit Go.V

section
variable {P:Program} {H:List Ent} {fr:Option Nat} {n m:Nat} {a:IC} {QV:VE->AF->List Ent->Prop} {af:AF} {S:SS}
abbrev stcK (S:SS) (k1 k2 k3:Nat):List AV:=[.int .i64 S.vars,.int .i64 S.fixed,.int .i64 S.names,.int .i64 S.holes,.ptr k1 0,.sl 6 (qx S.waits),.opq k2,.opq k3,.int .i64 S.pos,.int .i64 S.err]
theorem qjw (S:SS) (k1 k2 k3:Nat) (hq:VI P fr n m a QV af ((((H.set k1 .dead).set k2 .dead).set k3 .dead).set 0 (stE S)))
 (h0:ent H 0 = .blk (stcK S k1 k2 k3)) (h1:ent H k1 = subE S.known) (h2:ent H k2 = mapE (qe0 S.fills)) (h3:ent H k3 = mapE (qei S.free))
 (hn:[0,k1,k2,k3].Nodup) (hl0:0 < H.length) (hl1:k1 < H.length) (hl2:k2 < H.length) (hl3:k3 < H.length):VI P fr n m a QV af H:=by
 refine qtc 0 [k1,k2,k3] (H1:=stH S) (by simp) hn ?_ hq
 exact ⟨⟨hl0,by simp only [Ent.bd,AV.bds,AV.bd,qb7];rfl,by rw [h0];simp only [Ent.ren,AV.rens,AV.ren,qcb];rfl⟩,⟨hl1,rfl,by rw [h1];rfl⟩,⟨hl2,rfl,by rw [h2];rfl⟩,⟨hl3,rfl,by rw [h3];rfl⟩,trivial⟩
theorem qi9 (S:SS) (he:ent H 0 = stE S) (hm:m≤H.length) (hq:VI P fr n m a QV af (H.set 0 (.blk (stcK S H.length (H.length + 1) (H.length + 2))) ++ [subE S.known,mapE (qe0 S.fills),mapE (qei S.free)])):VI P fr n m a QV af H:=by
 refine qba5 0 he hm ?_
 simp only [Ent.ren,AV.rens,AV.ren,qcb,List.map_cons,List.map_nil]
 exact hq
end
def qbnb (S:SS) (p:Pd) (pos:Int):SS:={ useS S with waits:=S.waits ++ [⟨p,pos,useH S⟩] }
theorem qboe {S:SS} (p:Pd) (pos:Int) (hl:S.waits.length≤1000000):VM Tryz.prog 25 (stE S) (stE (qbnb S p pos)) [.ptr 0 0,encP p,.int .i64 pos] (.int .i64 (useH S)):=by
 have hu:=q79 S
 generalize hS:useS S = U at hu
 have hw:U.waits = S.waits:=by rw [← hS];rfl
 have hR:qbnb S p pos = { U with waits:=U.waits ++ [⟨p,pos,useH S⟩] }:=by rw [qbnb,hS,hw]
 rw [hR]
 rw [← hw] at hl
 generalize useH S = h at *
 refine qc c0i 1 (by simp) (by simp) ?_
 unfold k0i
 generalize hz:IC.seq q8f _ = z1
 repeat' (first | refine vs_ ?_ | ((first | refine vr_ ?_ | refine qbl 0 hu ?_ | (refine cs_ ?_ ?_<;>intro hc) | refine cj_ ?_ | fail)<;>(try refine ev_ ?_)) | with_reducible exact ti_)
 subst hz
 refine qi9 U rfl (by simp) ?_
 simp only [List.length_cons,List.length_nil,List.set_cons_zero,List.cons_append,List.nil_append,Nat.zero_add,Nat.reduceAdd]
 generalize hz:IC.seq q8x _ = z1
 have hcap:qdq (U.waits.length + 1) 80 = True:=eq_true (by unfold qdq;omega)
 have hmx:(U.waits.length:Int)≤(U.waits.length:Int):=by omega
 repeat' (first | refine vs_ ?_ | ((first | refine vr_ ?_ | fail)<;>(try simp only [hcap,List.take_length,go_sem,↓reduceIte])) | ((first | (refine cs_ ?_ ?_<;>intro hc) | refine cj_ ?_ | fail)<;>(try refine ev_ ?_)) | with_reducible exact ti_)
 subst hz
 refine q0m 0 5 (.sl 6) rfl ?_
 have hrow:qx U.waits ++ [AV.agg [.str p.cls,.str p.ty.con,.int .i64 p.ty.var,.sl 3 (qj p.ty.args),.int .i64 pos,.int .i64 h]] = qx (U.waits ++ [⟨p,pos,h⟩]):=qjz U.waits ⟨p,pos,h⟩
 have hlen:(qx (U.waits ++ [⟨p,pos,h⟩])).length = U.waits.length + 1:=by rw [qfw,List.length_append];rfl
 rw [hrow]
 simp only [List.getD_cons_succ,List.getD_cons_zero,List.set_cons_succ,List.set_cons_zero,co,ent,hlen,if_true]
 refine qjw { U with waits:=U.waits ++ [⟨p,pos,h⟩] } 2 3 4 ?_ rfl rfl rfl rfl (by simp) (by simp) (by simp) (by simp) (by simp)
 repeat' (first | refine vs_ ?_ | ((first | refine vr_ ?_ | (refine cs_ ?_ ?_<;>intro hc) | refine cj_ ?_ | fail)<;>(try refine ev_ ?_)) | with_reducible exact ti_)
set_option maxRecDepth 4000

def lsV (s:List Pr):List Int:=s.map Pr.v
def lsT (s:List Pr):List Ty:=s.map Pr.ty
def lsSt (S:SS) (i:Nat):AF×List Ent:=(⟨[(4,accV 4 (ints (lsV (S.known.take i)))),(5,accV 5 (qj (lsT (S.known.take i)))),(12,.sl 4 (qbq S.known)),(13,.int .i64 S.known.length),(14,.int .i64 i)],[]⟩,stH S ++ accE 1 (ints (lsV (S.known.take i))) ++ accE 3 (qj (lsT (S.known.take i))))
theorem qtd {S:SS} (hl:S.known.length≤100000) (ho:smlR S.known):VM Tryz.prog 50 (stE S) (stE S) [.ptr 0 0] (.tup [.sl 1 (ints (lsV S.known)),.sl 3 (qj (lsT S.known))]):=by
 refine qcd ?_ (by simp [AV.bds,AV.bd])
 refine qc c0u 4 (by simp) (by simp) ?_
 repeat' (first | refine vs_ ?_ | ((first | refine vr_ ?_ | refine qbl 1 (qea hl ho) ?_ | (refine cs_ ?_ ?_<;>intro hc) | refine cj_ ?_ | simp (disch:=omega) only [encs_getN,qb])<;>(try refine ev_ ?_)) | with_reducible exact ti_)
 refine qp (S:=Nat) (fun i=>i≤S.known.length) (lsSt S) (fun i=>S.known.length - i) ?_ fun i hi=>?_
 ·refine qm 0 [0,1,2,3] (Nat.zero_le _) rfl (by simp) ?_ ?_ ?_<;>simp only [lsSt,List.take_zero,lsV,lsT,List.map_nil,ints,qj,qer,qi3,List.append_nil]<;>(try refine ev_ ?_)<;>(try with_reducible exact ti_)<;>(try simp (disch:=omega) only [qb,and_true,true_and])
 ·unfold lsSt
  have hvl:(ints (lsV (S.known.take i))).length = i:=by rw [qi4,lsV,List.length_map,List.length_take];omega
  have htl:(qj (lsT (S.known.take i))).length = i:=by rw [qbu,lsT,List.length_map,List.length_take];omega
  by_cases hlt:i < S.known.length
  ·have hg:=qb3 hlt
   have hsn:=qlv hlt
   have e1:ints (lsV (S.known.take i)) ++ [.int .i64 (S.known.getD i R0).v] = ints (lsV (S.known.take (i + 1))):=by rw [hsn,qwz];simp only [lsV,List.map_append,List.map_cons,List.map_nil]
   have e2:qj (lsT (S.known.take i)) ++ [encY (S.known.getD i R0).ty] = qj (lsT (S.known.take (i + 1))):=by rw [hsn,qjg];simp only [lsT,List.map_append,List.map_cons,List.map_nil]
   have c1:qdq (i + 1) 8 = True:=eq_true (by unfold qdq;omega)
   have c2:qdq (i + 1) 48 = True:=eq_true (by unfold qdq;omega)
   have hif:(i:Int) < (S.known.length:Int):=by omega
   generalize S.known.getD i R0 = x at *
   have hxf:AV.agg [.str x.ty.con,.int .i64 x.ty.var,.sl 3 (qj x.ty.args)] = encY x.ty:=qbh _
   by_cases h0:i = 0
   ·subst h0
    have n1:ints (lsV (S.known.take 0)) = []:=rfl
    have n2:qj (lsT (S.known.take 0)) = []:=rfl
    rw [n1] at e1
    rw [n2] at e2
    rw [n1,n2]
    simp only [qer,qi3,List.append_nil]
    have hif0:(0:Int) < (S.known.length:Int):=by omega
    repeat' (first | refine vs_ ?_ | ((first | refine vr_ ?_ | fail)<;>(try simp (disch:=first | omega | (simp only [List.length_set,List.length_append,List.length_cons,List.length_nil];done) | (simp only [List.length_set,List.length_append,List.length_cons,List.length_nil];omega)) only [hg,hif0,hxf,qb,c1,c2,go_sem,↓reduceIte])) | ((first | simp (disch:=omega) only [hg] | (refine cs_ ?_ ?_<;>intro hc) | refine cj_ ?_ | simp (disch:=omega) only [encs_getN,qb])<;>(try refine ev_ ?_)) | with_reducible exact ti_)
    refine qm 1 [0,1,2,3,5,6] ⟨by omega,by omega⟩ rfl (by simp) ?_ ?_ ?_<;>simp only [lsSt,← e1,← e2,List.nil_append,qiz,qtu]<;>(try refine ev_ ?_)<;>(try with_reducible exact ti_)<;>(try simp (disch:=omega) only [qb,and_true,true_and])
    all_goals rfl
   ·have n1:ints (lsV (S.known.take i))≠[]:=fun h=>h0 (by rw [← hvl,h];rfl)
    have n2:qj (lsT (S.known.take i))≠[]:=fun h=>h0 (by rw [← htl,h];rfl)
    simp only [qgi n1,qj3 n1,qgi n2,qj3 n2,hvl,htl]
    repeat' (first | refine vs_ ?_ | ((first | refine vr_ ?_ | fail)<;>(try simp (disch:=first | omega | (simp only [List.length_set,List.length_append,List.length_cons,List.length_nil];done) | (simp only [List.length_set,List.length_append,List.length_cons,List.length_nil];omega)) only [hg,hif,hxf,hvl,htl,qb,c1,c2,go_sem,↓reduceIte])) | ((first | simp (disch:=omega) only [hg] | (refine cs_ ?_ ?_<;>intro hc) | refine cj_ ?_ | simp (disch:=omega) only [encs_getN,qb])<;>(try refine ev_ ?_)) | with_reducible exact ti_)
    refine qm (i + 1) [0,1,2,3,7,8] ⟨by omega,by omega⟩ rfl (by simp) ?_ ?_ ?_<;>simp only [lsSt,← e1,← e2,qgm,qo5,hvl,htl]<;>(try refine ev_ ?_)<;>(try with_reducible exact ti_)<;>(try simp (disch:=omega) only [qb,and_true,true_and])
    ·rw [e1,e2];exact ⟨⟨qfl _ _,by rw [qip]⟩,qbn _ _,by rw [qg1]⟩
    ·rw [qbb (by omega) (by omega),Int.natCast_add];rfl
  ·have hie:i = S.known.length:=by omega
   subst hie
   rw [List.take_length] at hvl htl ⊢
   by_cases h0:S.known = []
   ·have n1:ints (lsV S.known) = []:=by rw [h0];rfl
    have n2:qj (lsT S.known) = []:=by rw [h0];rfl
    rw [n1,n2]
    simp only [qer,qi3,List.append_nil]
    repeat' (first | refine vs_ ?_ | ((first | refine vr_ ?_ | (refine cs_ ?_ ?_<;>intro hc) | refine cj_ ?_ | simp (disch:=omega) only [encs_getN,qb])<;>(try refine ev_ ?_)) | with_reducible exact ti_)
    all_goals try (exfalso;omega)
    exact qt (S:=S) (L:=[]) rfl rfl ⟨rfl,rfl⟩
   ·have hne:S.known.length≠0:=fun h=>h0 (List.length_eq_zero_iff.1 h)
    have n1:ints (lsV S.known)≠[]:=fun h=>hne (by rw [← hvl,h];rfl)
    have n2:qj (lsT S.known)≠[]:=fun h=>hne (by rw [← htl,h];rfl)
    simp only [qgi n1,qj3 n1,qgi n2,qj3 n2,hvl,htl]
    repeat' (first | refine vs_ ?_ | ((first | refine vr_ ?_ | fail)<;>(try simp only [hvl,htl,go_sem,↓reduceIte])) | ((first | (refine cs_ ?_ ?_<;>intro hc) | refine cj_ ?_ | simp (disch:=omega) only [encs_getN,qb])<;>(try refine ev_ ?_)) | with_reducible exact ti_)
    all_goals try (exfalso;omega)
    exact qt (S:=S) (L:=[]) rfl (by simp only [AV.bd,AV.bds,qfl,qbn,Bool.and_true]) ⟨rfl,rfl⟩
def typS (S:SS) (t:Ty):Ty:=if (typK (lsV S.known) (lsT S.known) t).2 = true then (typK (lsV S.known) (lsT S.known) t).1 else Y0
theorem qbmh {S:SS} {t:Ty} (hl:S.known.length≤100000) (ho:smlR S.known) (hb:szY t≤1000000):VM Tryz.prog 15 (stE S) (stE S) [.ptr 0 0,encY t] (encY (typS S t)):=by
 have h1:=qtd hl ho
 have h2:=qwa (vs:=lsV S.known) (ts:=lsT S.known) hb
 have hz:AV.agg [.str [],.int .i64 0,.sl 3 []] = encY Y0:=rfl
 unfold typS
 generalize typK (lsV S.known) (lsT S.known) t = q at *
 obtain ⟨u,b⟩:=q
 dsimp only at h2 ⊢
 refine qc c0e 1 (by simp) (by simp) ?_
 cases b with
 | true =>
   repeat' (first | refine vs_ ?_ | ((first | refine vr_ ?_ | fail)<;>(try simp only [hz,go_sem,↓reduceIte])) | ((first | (refine cs_ ?_ ?_<;>intro hc) | refine cj_ ?_ | fail | refine qbl 0 h1 ?_ | refine qa h2 fun _=>?_)<;>(try refine ev_ ?_)) | with_reducible exact ti_)
   all_goals trace_state
 | false =>
   repeat' (first | refine vs_ ?_ | ((first | refine vr_ ?_ | fail)<;>(try simp only [hz,go_sem,↓reduceIte])) | ((first | (refine cs_ ?_ ?_<;>intro hc) | refine cj_ ?_ | fail | refine qbl 0 h1 ?_ | refine qa h2 fun _=>?_)<;>(try refine ev_ ?_)) | with_reducible exact ti_)
   all_goals trace_state
set_option maxRecDepth 4000

def valG {α:Type} (l:List (Int×α)) (k:Int) (z:α):α:=((qh2 l k).map (·.2)).getD z
section
variable {H:List Ent} {Q:List Ent->VO->Prop}
theorem qyi (i:Nat) {S:List (Int×Int)} {k:Int} (hq:Q H (.val (.int .i64 (valG S k 0)))) (he:ent H i = mapE (qei S):=by rfl):VApp Tryz.prog H (mkV (.look 95 false)) [.opq i,.int .i64 k] Q:=by
 refine qxz rfl rfl (z:=.int .i64 0) rfl false he ?_
 have hv:((qek (qei S) k).map (·.2)).getD (.int .i64 0) = .int .i64 (valG S k 0):=by
  rw [qei,qfa (AV.int .i64),valG]
  cases qh2 S k<;>rfl
 simp only [Bool.false_eq_true,if_false,hv]
 exact hq
theorem qbxt (i:Nat) {S:List (Int×Int)} {k:Int} (hq:Q (H.set i (mapE (qei (delG S k)))) (.val (.tup []))) (he:ent H i = mapE (qei S):=by rfl):VApp Tryz.prog H (mkV (.del 95)) [.opq i,.int .i64 k] Q:=by
 have hu:delM (qei S) k = qei (delG S k):=q6m (AV.int .i64) S k
 rw [← hu] at hq
 exact qbue rfl rfl he hq
end
def qbd2 (S:SS) (h:Int) (t:Tm):Int×SS :=
 if h < 0 then (1,S) else if S.holes≤h then (1,S) else if lglT t = false then (1,S) else if lstT t (IntKind.i64.wrap (h + 1))≤h then (1,S) else
 if valG S.free h 0 = 0 then (6,S) else (0,{ S with free:=delG S.free h,fills:=updG S.fills h t })
theorem qq3 (S:SS) (h:Int) (t:Tm):VM Tryz.prog 28 (stE S) (stE (qbd2 S h t).2) [.ptr 0 0,.int .i64 h,encT t] (.int .i64 (qbd2 S h t).1):=by
 have hL:=qfs t
 have hT:=qp0 t (IntKind.i64.wrap (h + 1))
 refine qcd ?_ (by simp only [AV.bds,AV.bd,qcs];rfl)
 refine qc c0l 4 (by simp) (by simp) ?_
 unfold qbd2
 by_cases h1:h < 0
 ·rw [if_pos h1]
  repeat' (first | refine vs_ ?_ | ((first | refine vr_ ?_ | fail)<;>(try simp only [h1,go_sem,↓reduceIte])) | ((first | (refine cs_ ?_ ?_<;>intro hc) | refine cj_ ?_ | simp (disch:=omega) only [encs_getN,qb])<;>(try refine ev_ ?_)) | with_reducible exact ti_)
  all_goals exact qt (S:=S) (L:=[]) rfl rfl ⟨rfl,rfl⟩
 rw [if_neg h1]
 by_cases h2:S.holes≤h
 ·rw [if_pos h2]
  repeat' (first | refine vs_ ?_ | ((first | refine vr_ ?_ | fail)<;>(try simp only [h1,h2,go_sem,↓reduceIte])) | ((first | (refine cs_ ?_ ?_<;>intro hc) | refine cj_ ?_ | simp (disch:=omega) only [encs_getN,qb])<;>(try refine ev_ ?_)) | with_reducible exact ti_)
  all_goals exact qt (S:=S) (L:=[]) rfl rfl ⟨rfl,rfl⟩
 rw [if_neg h2]
 cases hl:lglT t with
 | false =>
   rw [if_pos rfl]
   rw [hl] at hL
   repeat' (first | refine vs_ ?_ | ((first | refine vr_ ?_ | fail)<;>(try simp only [h1,h2,go_sem,↓reduceIte])) | ((first | (refine cs_ ?_ ?_<;>intro hc) | refine cj_ ?_ | simp (disch:=omega) only [encs_getN,qb] | refine qa hL fun _=>?_ | refine qg hL ?_)<;>(try refine ev_ ?_)) | with_reducible exact ti_)
   all_goals exact qt (S:=S) (L:=[]) rfl rfl ⟨rfl,rfl⟩
 | true =>
   rw [if_neg (by simp)]
   rw [hl] at hL
   generalize lstT t (IntKind.i64.wrap (h + 1)) = x at *
   by_cases h3:x≤h
   ·rw [if_pos h3]
    repeat' (first | refine vs_ ?_ | ((first | refine vr_ ?_ | fail)<;>(try simp only [h1,h2,go_sem,↓reduceIte])) | ((first | (refine cs_ ?_ ?_<;>intro hc) | refine cj_ ?_ | simp (disch:=omega) only [encs_getN,qb] | refine qa hL fun _=>?_ | refine qa hT fun _=>?_ | refine qg hL ?_ | refine qg hT ?_)<;>(try refine ev_ ?_)) | with_reducible exact ti_)
    all_goals first | (exfalso;omega) | exact qt (S:=S) (L:=[]) rfl rfl ⟨rfl,rfl⟩
   rw [if_neg h3]
   by_cases h4:valG S.free h 0 = 0
   ·rw [if_pos h4]
    repeat' (first | refine vs_ ?_ | ((first | refine vr_ ?_ | fail)<;>(try simp only [h1,h2,go_sem,↓reduceIte])) | ((first | (refine cs_ ?_ ?_<;>intro hc) | refine cj_ ?_ | simp (disch:=omega) only [encs_getN,qb] | refine qa hL fun _=>?_ | refine qa hT fun _=>?_ | refine qyi 3 ?_ | refine qg hL ?_ | refine qg hT ?_)<;>(try refine ev_ ?_)) | with_reducible exact ti_)
    all_goals first | (exfalso;omega) | exact qt (S:=S) (L:=[]) rfl rfl ⟨rfl,rfl⟩
   ·rw [if_neg h4]
    repeat' (first | refine vs_ ?_ | ((first | refine vr_ ?_ | fail)<;>(try simp only [h1,h2,go_sem,↓reduceIte])) | ((first | (refine cs_ ?_ ?_<;>intro hc) | refine cj_ ?_ | simp (disch:=omega) only [encs_getN,qb] | refine qa hL fun _=>?_ | refine qa hT fun _=>?_ | refine qyi 3 ?_ | refine qbxt 3 ?_ | refine qbt3 2 ?_ | refine qg hL ?_ | refine qg hT ?_)<;>(try refine ev_ ?_)) | with_reducible exact ti_)
    all_goals first | (exfalso;omega) | exact qt (S:={ S with free:=delG S.free h,fills:=updG S.fills h t }) (L:=[]) rfl rfl ⟨rfl,rfl⟩
end Go.Proofs.YtkenggenkmfopaaGreat
