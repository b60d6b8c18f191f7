/- Texts of this proof, joined. -/
import Derived.Test.YtgglaabljlhliaaGreatKbw
import Derived.Test.YtgglaabljlhliaaGreatKbz
import Derived.Test.YtgglaabljlhliaaGreatKby
import Derived.Test.YtgglaabljlhliaaGreatKbv
import Derived.Test.YtgglaabljlhliaaGreatKbe
set_option linter.unusedVariables false
set_option linter.unusedSimpArgs false

/- chapter 25's examples -/
set_option maxRecDepth 4000
namespace Go.Proofs.YtgglaabljlhliaaGreat
open Go Go.RowKit Go.V

def eqW:List UInt8:=[69,113]
def ordW:List UInt8:=[79,114,100]
def e25:Env:=⟨[],rfl,[⟨eqW,[],[],rfl⟩,⟨ordW,[eqW],[],rfl⟩],[⟨eqW,[76],1,[⟨eqW,Y0⟩]⟩,⟨eqW,[73,110,116],0,[]⟩]⟩
def tLI:Ty:=⟨[76],0,[wInt]⟩
def tLa:Ty:=⟨[76],0,[Y0]⟩
def pLI:Pd:=⟨eqW,tLI⟩
def pLa:Pd:=⟨eqW,tLa⟩
def pOr:Pd:=⟨ordW,Y0⟩
def pEq:Pd:=⟨eqW,Y0⟩
theorem qkl:fewC e25.cs:=qqt (by rfl)
theorem qmv:∀ x∈e25.is,smlI x:=by
 intro x hx
 simp [e25] at hx
 rcases hx with rfl | rfl
 ·exact ⟨by decide,by decide⟩
 ·exact ⟨by decide,by decide⟩
def P25a:Prf:=.mk 3 0 [wInt] [.mk 3 1 [] []]
def P25b:Prf:=.mk 3 0 [Y0] [.mk 2 0 [] [.mk 1 0 [] []]]
theorem qb4z:byW e25 [] pLI = (P25a,0):=by kernel_rfl
theorem qb3x:byW e25 [pOr] pLa = (P25b,0):=by kernel_rfl
theorem qb4m:byW e25 [] pLa = (Pf0,16):=by kernel_rfl
theorem qb4y:(supF e25.cs pEq [pOr] 0).isSome = true:=by kernel_rfl
theorem qb4i:allW e25 [] [pLI,pLa] = ([],1,16):=by kernel_rfl
theorem qb32:(allW e25 [] []).2.2 = 0:=by kernel_rfl
theorem qb4x:(allW e25 [] [pEq]).2.2 = 16:=by kernel_rfl
theorem qb4d:qg Tryz.prog 22 [.str [76,32,73,110,116]] (.tup [encY tLI,.int .i64 0]):=by
 have h:=qma (q3q (s:=[76,32,73,110,116]) (t:=tLI) (r:=⟨[],0,false⟩) rfl (by decide) (by decide) (by decide) (by decide) (by decide))
 have e:q0e [76,32,73,110,116] = (tLI,0):=rfl
 rw [e] at h
 exact h
theorem qb4j:qg Tryz.prog 22 [.str [76,32,97]] (.tup [encY tLa,.int .i64 0]):=by
 have h:=qma (q3q (s:=[76,32,97]) (t:=tLa) (r:=⟨[],0,false⟩) rfl (by decide) (by decide) (by decide) (by decide) (by decide))
 have e:q0e [76,32,97] = (tLa,0):=rfl
 rw [e] at h
 exact h
theorem qmg:∀ q∈([]:List Pd),szY q.ty≤20000∧dpY q.ty≤300:=fun q hq=>by cases hq
theorem qb36:qg Tryz.prog 8 [encV e25,.sl 4 [],encP pLI] (.tup [qbr P25a,.int .i64 0]):=by
 have h:=qdw (e:=e25) [] (p:=pLI) qkl qmv qmg (by decide)
 rw [qb4z] at h
 exact h
theorem qb4c:qg Tryz.prog 8 [encV e25,.sl 4 (qp [pOr]),encP pLa] (.tup [qbr P25b,.int .i64 0]):=by
 have h:=qdw (e:=e25) [pOr] (p:=pLa) qkl qmv (by intro q hq;simp at hq;subst hq;decide) (by decide)
 rw [qb3x] at h
 exact h
theorem qb4f:qg Tryz.prog 8 [encV e25,.sl 4 [],encP pLa] (.tup [qbr Pf0,.int .i64 16]):=by
 have h:=qdw (e:=e25) [] (p:=pLa) qkl qmv qmg (by decide)
 rw [qb4m] at h
 exact h
theorem qb4a:∃ x,qg Tryz.prog 23 [encV e25,.sl 4 (qp [pOr]),encP pEq] (.tup [qbr x,.bool true]):=by
 have h:=qi7 (e:=e25) qkl [pOr] pEq
 have e:=qb4y
 cases hs:supF e25.cs pEq [pOr] 0 with
 | none=>rw [hs] at e;cases e
 | some x=>rw [hs] at h;exact ⟨x,h⟩
theorem qb4s:qg Tryz.prog 24 [encV e25,.sl 4 [],.sl 4 (qp [pLI,pLa])] (.tup [.sl 4 [],.int .i64 1,.int .i64 16]):=by
 have h:=qmj (e:=e25) [] [pLI,pLa] qkl qmv qmg (by intro q hq;simp at hq;rcases hq with rfl | rfl<;>decide) (by decide)
 rw [qb4i] at h
 exact h
theorem qb4t:qg Tryz.prog 17 [encV e25,.sl 4 [],.sl 4 []] (.bool true):=by
 have h:=qgl (e:=e25) [] [] qkl qmv qmg qmg (by decide)
 rw [qb32] at h
 exact h
theorem qb37:qg Tryz.prog 17 [encV e25,.sl 4 [],.sl 4 (qp [pEq])] (.bool false):=by
 have h:=qgl (e:=e25) [] [pEq] qkl qmv qmg (by intro q hq;simp at hq;subst hq;decide) (by decide)
 rw [qb4x] at h
 exact h
theorem qb4u:qg Tryz.prog 25 [qbr (.mk 3 1 [] [])] (.str [64,49]):=qbaa rfl rfl rfl
theorem qb3v:qg Tryz.prog 25 [qbr (.mk 1 0 [] [])] (.str [35,48]):=q4c rfl rfl
theorem qb4v:qg Tryz.prog 25 [qbr (.mk 2 0 [] [.mk 1 0 [] []])] (.str [35,48,46,48]):=qz2 rfl rfl rfl qb3v
theorem qb4k:qg Tryz.prog 25 [qbr P25a] (.str [64,48,40,64,49,41]):=qq8 rfl rfl rfl qb4u (by decide)
theorem qb48:qg Tryz.prog 25 [qbr P25b] (.str [64,48,40,35,48,46,48,41]):=qq8 rfl rfl rfl qb4v (by decide)
set_option maxHeartbeats 2000000 in
theorem qbf:qg Tryz.prog 7 [] (.bool true):=by
 refine qd c0db (by simp) rfl rfl fun hw=>?_
 obtain ⟨x,hd⟩:=qb4a
 repeat' (first | refine vs_ ?_ | ((first | refine vr_ ?_ | refine qa qb4d fun _=>?_ | refine qa qb4j fun _=>?_ | refine qa qb36 fun _=>?_ | refine qa qb4c fun _=>?_ | refine qa qb4f fun _=>?_ | refine qa hd fun _=>?_ | refine qa qb4s fun _=>?_ | refine qa qb4t fun _=>?_ | refine qa qb37 fun _=>?_ | refine qa qb4k fun _=>?_ | refine qa qb48 fun _=>?_ | (refine cs_ ?_ ?_<;>intro hc) | refine cj_ ?_ | fail)<;>(try refine ev_ ?_)) | with_reducible exact ti_)
 all_goals trace_state
set_option maxRecDepth 4000

theorem qej (t:Ty) (l:List Ty):(qcb t l).length = l.length:=by rw [qfy,List.length_map]
theorem qmf (t:Ty) {l:List Ty} {i:Nat} (h:i < l.length):qq (qcb t (l.take (i + 1))) = qq (qcb t (l.take i)) ++ [encY (putT t (l.getD i Y0))]:=by
 rw [qfy,qfy,qel,List.take_add_one,List.getElem?_eq_getElem h,List.getD_eq_getElem?_getD,List.getElem?_eq_getElem h,List.map_append]
 rfl
theorem qnv (t u:Ty):putT t u = if u.con = []∧u.var = 0 then t else .mk u.con u.var (qcb t u.args):=by cases u;rw [putT];rfl
def lpSt (u t:Ty) (i:Nat):AF×List Ent:=(⟨[(2,.ptr 0 0),(3,.ptr 1 0),(4,.ptr 2 0),(5,accV 3 (qq (qcb t (u.args.take i)))),(6,.int .i64 i)],[]⟩,[.blk (yc u),.blk (yc t),.blk [.str [],.int .i64 0,.nils]] ++ accE 3 (qq (qcb t (u.args.take i))))
theorem q2y (t:Ty):∀ u,szY u≤1000000->qg Tryz.prog 31 [encY u,encY t] (encY (putT t u)):=by
 refine Ty.ind fun u ih hb=>?_
 refine qd c0ef (by simp) (by simp only [go_sem]) (qb7 0 _) fun hw=>?_
 have hk:=qcs hw.1
 have hsz:=qfh u
 have hal:=qhx u.args
 have ih':∀ i,i < u.args.length->qg Tryz.prog 31 [encY (u.args.getD i Y0),encY t] (encY (putT t (u.args.getD i Y0))):=fun i hi=>ih _ (qbi hi) (by have:=qgt (qbi hi);omega)
 by_cases hcv:u.con = []∧u.var = 0
 ·obtain ⟨hc,hv⟩:=hcv
  rw [qnv,if_pos ⟨hc,hv⟩]
  have hv0:decide ((0:Int) = 0) = true:=rfl
  repeat' (first | refine vs_ ?_ | ((first | refine vr_ ?_ | fail)<;>(try simp only [hc,hv,hv0,qb5,go_sem,↓reduceIte])) | ((first | (refine cs_ ?_ ?_<;>intro hc) | refine cj_ ?_ | simp (disch:=omega) only [encs_getN,qb])<;>(try refine ev_ ?_)) | with_reducible exact ti_)
 rw [qnv,if_neg hcv]
 have hy:AV.agg [.str u.con,.int .i64 u.var,.sl 3 (qq (qcb t u.args))] = encY (.mk u.con u.var (qcb t u.args)):=by rw [encY]
 have hgo:u.con≠[]∨(u.con = []∧u.var≠0):=by
  by_cases hc:u.con = []
  ·exact .inr ⟨hc,fun hv=>hcv ⟨hc,hv⟩⟩
  ·exact .inl hc
 have hd:decide (u.con = []) = true∧decide (u.var = 0) = false∨decide (u.con = []) = false:=by
  rcases hgo with hc | ⟨hc,hv⟩
  ·exact .inr (decide_eq_false hc)
  ·exact .inl ⟨decide_eq_true hc,decide_eq_false hv⟩
 rcases hd with ⟨hc,hv⟩ | hc
 ·repeat' (first | refine vs_ ?_ | ((first | refine vr_ ?_ | fail)<;>(try simp only [hc,hv,go_sem,↓reduceIte])) | ((first | (refine cs_ ?_ ?_<;>intro hc) | refine cj_ ?_ | simp (disch:=omega) only [encs_getN,qb])<;>(try refine ev_ ?_)) | with_reducible exact ti_)
  refine qi (S:=Nat) (fun i=>i≤u.args.length) (lpSt u t) (fun i=>u.args.length - i) ?_ fun i hi=>?_
  ·refine qf 0 [0,1,2] (Nat.zero_le _) rfl (by simp) ?_ ?_ ?_<;>simp only [lpSt,List.take_zero,qcb,qcr,qm,qn]<;>(try refine ev_ ?_)<;>(try with_reducible exact ti_)<;>(try simp (disch:=omega) only [qb,and_true,true_and])
  ·have hlm:(qq (qcb t (u.args.take i))).length = i:=by rw [qbg,qej,List.length_take];omega
   have hcap:qbe (i + 1) 48 = True:=eq_true (capY (by omega))
   have hcap1:qbe 1 48 = True:=eq_true (capY (by omega))
   unfold lpSt
   by_cases hlt:i < u.args.length
   ·have hs:=qmf t hlt
    by_cases h0:i = 0
    ·subst h0
     simp only [List.take_zero,qcb,qcr,qm,qn,List.nil_append] at hs ⊢
     repeat' (first | refine vs_ ?_ | ((first | refine vr_ ?_ | fail)<;>(try simp (disch:=first | omega | (simp only [List.length_set,List.length_append,List.length_cons,List.length_nil];done) | (simp only [List.length_set,List.length_append,List.length_cons,List.length_nil];omega)) only [qw,qb,go_sem,↓reduceIte])) | ((first | simp (disch:=omega) only [qw] | simp (disch:=omega) only [hcap1] | (refine cs_ ?_ ?_<;>intro hc) | refine cj_ ?_ | simp (disch:=omega) only [encs_getN,qb] | refine qa (ih' 0 hlt) fun _=>?_ | refine qc (ih' 0 hlt) ?_)<;>(try refine ev_ ?_)) | with_reducible exact ti_)
     ·refine qf 1 [0,1,2,3] ⟨by omega,by omega⟩ rfl (by simp) ?_ ?_ ?_<;>simp only [lpSt,hs,qc3,qc2]<;>(try refine ev_ ?_)<;>(try with_reducible exact ti_)<;>(try simp (disch:=omega) only [qb,and_true,true_and])
      all_goals (rw [qgy])
     ·omega
    ·have hne:qq (qcb t (u.args.take i))≠[]:=fun h=>h0 (by rw [← hlm,h];rfl)
     simp only [q8 hne,q9 hne,hlm]
     have hlm2:(qcb t (u.args.take i)).length = i:=by rw [qej,List.length_take];omega
     repeat' (first | refine vs_ ?_ | ((first | refine vr_ ?_ | fail)<;>(try simp (disch:=first | omega | (simp only [List.length_set,List.length_append,List.length_cons,List.length_nil];done) | (simp only [List.length_set,List.length_append,List.length_cons,List.length_nil];omega)) only [qw,qb,hlm,hlm2,go_sem,↓reduceIte])) | ((first | simp (disch:=omega) only [qw] | simp (disch:=omega) only [hcap] | (refine cs_ ?_ ?_<;>intro hc) | refine cj_ ?_ | simp (disch:=omega) only [encs_getN,qb] | refine qa (ih' i hlt) fun _=>?_ | refine qc (ih' i hlt) ?_)<;>(try refine ev_ ?_)) | with_reducible exact ti_)
     ·refine qf (i + 1) [0,1,2,4] ⟨by omega,by omega⟩ rfl (by simp) ?_ ?_ ?_<;>simp only [lpSt,hs,qc9,qdh,hlm]<;>(try refine ev_ ?_)<;>(try with_reducible exact ti_)<;>(try simp (disch:=omega) only [qb,and_true,true_and])
      all_goals (rw [← hs];exact ⟨qb8 _ _,by rw [qd2]⟩)
     ·omega
   ·have hti:u.args.take i = u.args:=List.take_of_length_le (by omega)
    rw [hti] at hlm ⊢
    by_cases h0:u.args = []
    ·have hp:qcb t u.args = []:=by rw [h0,qcb]
     rw [hp] at hlm hy ⊢
     simp only [qcr,qm,qn] at hy ⊢
     repeat' (first | refine vs_ ?_ | ((first | refine vr_ ?_ | fail)<;>(try simp only [qu,hy,go_sem,↓reduceIte])) | ((first | (refine cs_ ?_ ?_<;>intro hc) | refine cj_ ?_ | simp (disch:=omega) only [encs_getN,qb])<;>(try refine ev_ ?_)) | with_reducible exact ti_)
     all_goals first | omega | trace_state
    ·have hne:qq (qcb t u.args)≠[]:=fun h=>h0 (by have:=congrArg List.length h;rw [qbg,qej] at this;exact List.length_eq_zero_iff.1 this)
     simp only [q8 hne,q9 hne,hlm]
     repeat' (first | refine vs_ ?_ | ((first | refine vr_ ?_ | fail)<;>(try simp only [hlm,hy,go_sem,↓reduceIte])) | ((first | (refine cs_ ?_ ?_<;>intro hc) | refine cj_ ?_ | simp (disch:=omega) only [encs_getN,qb])<;>(try refine ev_ ?_)) | with_reducible exact ti_)
     all_goals first | omega | trace_state
 ·repeat' (first | refine vs_ ?_ | ((first | refine vr_ ?_ | fail)<;>(try simp only [hc,go_sem,↓reduceIte])) | ((first | (refine cs_ ?_ ?_<;>intro hc) | refine cj_ ?_ | simp (disch:=omega) only [encs_getN,qb])<;>(try refine ev_ ?_)) | with_reducible exact ti_)
  refine qi (S:=Nat) (fun i=>i≤u.args.length) (lpSt u t) (fun i=>u.args.length - i) ?_ fun i hi=>?_
  ·refine qf 0 [0,1,2] (Nat.zero_le _) rfl (by simp) ?_ ?_ ?_<;>simp only [lpSt,List.take_zero,qcb,qcr,qm,qn]<;>(try refine ev_ ?_)<;>(try with_reducible exact ti_)<;>(try simp (disch:=omega) only [qb,and_true,true_and])
  ·have hlm:(qq (qcb t (u.args.take i))).length = i:=by rw [qbg,qej,List.length_take];omega
   have hcap:qbe (i + 1) 48 = True:=eq_true (capY (by omega))
   have hcap1:qbe 1 48 = True:=eq_true (capY (by omega))
   unfold lpSt
   by_cases hlt:i < u.args.length
   ·have hs:=qmf t hlt
    by_cases h0:i = 0
    ·subst h0
     simp only [List.take_zero,qcb,qcr,qm,qn,List.nil_append] at hs ⊢
     repeat' (first | refine vs_ ?_ | ((first | refine vr_ ?_ | fail)<;>(try simp (disch:=first | omega | (simp only [List.length_set,List.length_append,List.length_cons,List.length_nil];done) | (simp only [List.length_set,List.length_append,List.length_cons,List.length_nil];omega)) only [qw,qb,go_sem,↓reduceIte])) | ((first | simp (disch:=omega) only [qw] | simp (disch:=omega) only [hcap1] | (refine cs_ ?_ ?_<;>intro hc) | refine cj_ ?_ | simp (disch:=omega) only [encs_getN,qb] | refine qa (ih' 0 hlt) fun _=>?_ | refine qc (ih' 0 hlt) ?_)<;>(try refine ev_ ?_)) | with_reducible exact ti_)
     ·refine qf 1 [0,1,2,3] ⟨by omega,by omega⟩ rfl (by simp) ?_ ?_ ?_<;>simp only [lpSt,hs,qc3,qc2]<;>(try refine ev_ ?_)<;>(try with_reducible exact ti_)<;>(try simp (disch:=omega) only [qb,and_true,true_and])
      all_goals (rw [qgy])
     ·omega
    ·have hne:qq (qcb t (u.args.take i))≠[]:=fun h=>h0 (by rw [← hlm,h];rfl)
     simp only [q8 hne,q9 hne,hlm]
     have hlm2:(qcb t (u.args.take i)).length = i:=by rw [qej,List.length_take];omega
     repeat' (first | refine vs_ ?_ | ((first | refine vr_ ?_ | fail)<;>(try simp (disch:=first | omega | (simp only [List.length_set,List.length_append,List.length_cons,List.length_nil];done) | (simp only [List.length_set,List.length_append,List.length_cons,List.length_nil];omega)) only [qw,qb,hlm,hlm2,go_sem,↓reduceIte])) | ((first | simp (disch:=omega) only [qw] | simp (disch:=omega) only [hcap] | (refine cs_ ?_ ?_<;>intro hc) | refine cj_ ?_ | simp (disch:=omega) only [encs_getN,qb] | refine qa (ih' i hlt) fun _=>?_ | refine qc (ih' i hlt) ?_)<;>(try refine ev_ ?_)) | with_reducible exact ti_)
     ·refine qf (i + 1) [0,1,2,4] ⟨by omega,by omega⟩ rfl (by simp) ?_ ?_ ?_<;>simp only [lpSt,hs,qc9,qdh,hlm]<;>(try refine ev_ ?_)<;>(try with_reducible exact ti_)<;>(try simp (disch:=omega) only [qb,and_true,true_and])
      all_goals (rw [← hs];exact ⟨qb8 _ _,by rw [qd2]⟩)
     ·omega
   ·have hti:u.args.take i = u.args:=List.take_of_length_le (by omega)
    rw [hti] at hlm ⊢
    by_cases h0:u.args = []
    ·have hp:qcb t u.args = []:=by rw [h0,qcb]
     rw [hp] at hlm hy ⊢
     simp only [qcr,qm,qn] at hy ⊢
     repeat' (first | refine vs_ ?_ | ((first | refine vr_ ?_ | fail)<;>(try simp only [qu,hy,go_sem,↓reduceIte])) | ((first | (refine cs_ ?_ ?_<;>intro hc) | refine cj_ ?_ | simp (disch:=omega) only [encs_getN,qb])<;>(try refine ev_ ?_)) | with_reducible exact ti_)
     all_goals first | omega | trace_state
    ·have hne:qq (qcb t u.args)≠[]:=fun h=>h0 (by have:=congrArg List.length h;rw [qbg,qej] at this;exact List.length_eq_zero_iff.1 this)
     simp only [q8 hne,q9 hne,hlm]
     repeat' (first | refine vs_ ?_ | ((first | refine vr_ ?_ | fail)<;>(try simp only [hlm,hy,go_sem,↓reduceIte])) | ((first | (refine cs_ ?_ ?_<;>intro hc) | refine cj_ ?_ | simp (disch:=omega) only [encs_getN,qb])<;>(try refine ev_ ?_)) | with_reducible exact ti_)
     all_goals first | omega | trace_state
theorem qnd (p:Pd) (t:Ty) (hb:szY p.ty≤1000000):qg Tryz.prog 12 [encP p,encY t] (encP (wthP t p)):=by
 refine qd c0eg (by simp) (by simp only [go_sem]) (qnp 0 _) fun hw=>?_
 have hp:=q2y t p.ty hb
 repeat' (first | refine vs_ ?_ | ((first | refine vr_ ?_ | refine qa hp fun _=>?_ | refine qc hp ?_ | (refine cs_ ?_ ?_<;>intro hc) | refine cj_ ?_ | fail)<;>(try refine ev_ ?_)) | with_reducible exact ti_)
 all_goals rfl
end Go.Proofs.YtgglaabljlhliaaGreat
