/- Texts of this proof, joined. -/
import Derived.Test.YtgglaabljlhliaaGreatLbx
import Derived.Test.YtgglaabljlhliaaGreatLca
set_option linter.unusedVariables false
set_option linter.unusedSimpArgs false

/- chapter 26's statement: what is not too great; the examples -/
set_option maxRecDepth 4000
namespace Go.Proofs.YtgglaabljlhliaaGreat
open Go Go.RowKit Go.V

def q8j (e:Env) (l:List Pd):Bool:=fewE e && (decide (l.length≤8) && (fewP l && l.all fun p=>decide (dpY p.ty≤6)))
theorem q3y (e:Env) (l:List Pd):qk Tryz.prog 14 [encV e,.sl 4 (qg l)] (.bool (q8j e l)):=by
 refine qd c0cx (by simp) (by simp only [go_sem]) rfl fun hw=>?_
 have hl:=(qca hw.2.1).1
 have h0:decide ((0:Int) = 0) = true:=rfl
 have h1:decide ((1:Int) = 0) = false:=rfl
 unfold q8j
 cases he:fewE e with
 | false =>
   have h24:=qbdh he
   repeat' (first | refine vs_ ?_ | ((first | refine vr_ ?_ | fail)<;>(try simp only [h0,h1,go_sem,↓reduceIte])) | ((first | (refine cs_ ?_ ?_<;>intro hc) | refine cj_ ?_ | simp (disch:=omega) only [encs_getN,qb] | refine qa h24 fun _=>?_)<;>(try refine ev_ ?_)) | with_reducible exact ti_)
   all_goals first | rfl | (exfalso;omega)
 | true =>
   have h24:=q20 he
   by_cases h8:l.length≤8
   case neg =>
    rw [decide_eq_false h8]
    have h8I:(8:Int) < (l.length:Int):=by omega
    repeat' (first | refine vs_ ?_ | ((first | refine vr_ ?_ | fail)<;>(try simp only [h0,h1,h8I,go_sem,↓reduceIte])) | ((first | (refine cs_ ?_ ?_<;>intro hc) | refine cj_ ?_ | simp (disch:=omega) only [encs_getN,qb] | refine qa h24 fun _=>?_)<;>(try refine ev_ ?_)) | with_reducible exact ti_)
    all_goals first | rfl | (exfalso;omega)
   rw [decide_eq_true h8]
   cases hp:fewP l with
   | false =>
     have hL:=qwv hp
     repeat' (first | refine vs_ ?_ | ((first | refine vr_ ?_ | fail)<;>(try simp only [h0,h1,go_sem,↓reduceIte])) | ((first | (refine cs_ ?_ ?_<;>intro hc) | refine cj_ ?_ | simp (disch:=omega) only [encs_getN,qb] | refine qa h24 fun _=>?_ | refine qa hL fun _=>?_)<;>(try refine ev_ ?_)) | with_reducible exact ti_)
     all_goals first | rfl | (exfalso;omega)
   | true =>
     have hL:=qkj hp
     obtain ⟨_,hsz⟩:=qpj hl hp
     simp only [Bool.true_and]
     repeat' (first | refine vs_ ?_ | ((first | refine vr_ ?_ | fail)<;>(try simp only [h0,h1,go_sem,↓reduceIte])) | ((first | (refine cs_ ?_ ?_<;>intro hc) | refine cj_ ?_ | simp (disch:=omega) only [encs_getN,qb] | refine qa h24 fun _=>?_ | refine qa hL fun _=>?_)<;>(try refine ev_ ?_)) | with_reducible exact ti_)
     all_goals try (exfalso;omega)
     refine qj (S:=Nat) (fun i=>i≤l.length∧(l.drop i).all (fun p=>decide (dpY p.ty≤6)) = l.all fun p=>decide (dpY p.ty≤6)) (fun i=>(⟨[(1,.sl 4 (qg l)),(5,.int .i64 i)],[]⟩,[])) (fun i=>l.length - i) ?_ fun i hi=>?_
     ·refine qf 0 [] ⟨Nat.zero_le _,rfl⟩ rfl (by simp) ?_ ?_ ?_<;>(try refine ev_ ?_)<;>(try with_reducible exact ti_)<;>(try simp (disch:=omega) only [qb,and_true,true_and])
     ·obtain ⟨hi,ha⟩:=hi
      by_cases hlt:i < l.length
      ·have hg:=q8 hlt
       have hd:=qtm (l.getD i P0).ty
       obtain ⟨z1,z2⟩:=hsz _ (qvg hlt)
       rw [qss _ (by omega)] at hd
       rw [V.dropP hlt,List.all_cons] at ha
       have hltI:(i:Int) < (l.length:Int):=by omega
       generalize l.getD i P0 = q at *
       by_cases q1:dpY q.ty≤6
       ·rw [decide_eq_true q1,Bool.true_and] at ha
        repeat' (first | refine vs_ ?_ | ((first | refine vr_ ?_ | fail)<;>(try simp (disch:=first | omega | (simp only [List.length_set,List.length_append,List.length_cons,List.length_nil];done) | (simp only [List.length_set,List.length_append,List.length_cons,List.length_nil];omega)) only [hg,hltI,qb,go_sem,↓reduceIte])) | ((first | simp (disch:=omega) only [hg] | (refine cs_ ?_ ?_<;>intro hc) | refine cj_ ?_ | simp (disch:=omega) only [encs_getN,qb] | refine qa hd fun _=>?_)<;>(try refine ev_ ?_)) | with_reducible exact ti_)
        all_goals try (exfalso;omega)
        refine qf (i + 1) [] ⟨⟨by omega,ha⟩,by omega⟩ rfl (by simp) ?_ ?_ ?_<;>(try refine ev_ ?_)<;>(try with_reducible exact ti_)<;>(try simp (disch:=omega) only [qb,and_true,true_and])
       ·rw [decide_eq_false q1,Bool.false_and] at ha
        rw [← ha]
        repeat' (first | refine vs_ ?_ | ((first | refine vr_ ?_ | fail)<;>(try simp (disch:=first | omega | (simp only [List.length_set,List.length_append,List.length_cons,List.length_nil];done) | (simp only [List.length_set,List.length_append,List.length_cons,List.length_nil];omega)) only [hg,hltI,qb,go_sem,↓reduceIte])) | ((first | simp (disch:=omega) only [hg] | (refine cs_ ?_ ?_<;>intro hc) | refine cj_ ?_ | simp (disch:=omega) only [encs_getN,qb] | refine qa hd fun _=>?_)<;>(try refine ev_ ?_)) | with_reducible exact ti_)
        all_goals first | rfl | (exfalso;omega)
      ·rw [List.drop_of_length_le (by omega),List.all_nil] at ha
       have hltI:¬ (i:Int) < (l.length:Int):=by omega
       repeat' (first | refine vs_ ?_ | ((first | refine vr_ ?_ | fail)<;>(try simp only [hltI,go_sem,↓reduceIte])) | ((first | (refine cs_ ?_ ?_<;>intro hc) | refine cj_ ?_ | simp (disch:=omega) only [encs_getN,qb])<;>(try refine ev_ ?_)) | with_reducible exact ti_)
       all_goals rw [← ha]
def e26:Env:=⟨[],rfl,[⟨eqW,[],[],rfl⟩,⟨ordW,[eqW],[],rfl⟩],[⟨eqW,[76],1,[⟨eqW,Y0⟩]⟩]⟩
def l26:List Pd:=[pOr,pLa,pEq]
def pOL:Pd:=⟨ordW,tLa⟩
theorem qwy:fewC e26.cs:=qsd (by rfl)
theorem q4u:∀ x∈e26.is,smlI x:=by
 intro x hx
 simp [e26] at hx
 subst hx
 exact ⟨by decide,by decide⟩
theorem q6j:∀ x∈e26.is,x.ps.length≤30:=by
 intro x hx
 simp [e26] at hx
 subst hx
 decide
theorem qb5g:∀ p∈l26,szY p.ty≤20000∧dpY p.ty≤6:=by
 intro p hp
 simp [l26] at hp
 rcases hp with rfl | rfl | rfl<;>decide
theorem qb7m:redR e26 l26 = ([pOr],[.mk 1 0 [] [],P25b,.mk 2 0 [] [.mk 1 0 [] []]],0,0):=by kernel_rfl
theorem qb6x:qdq e26 pLa = ([pEq],0):=by kernel_rfl
theorem qb7g:hdsL e26 [pOr,pOL] 0 [] = ([],1,16):=by kernel_rfl
theorem qb7j:simR e26 l26 = [pOr,pLa]:=by kernel_rfl
theorem qb65:simR e26 (hdsL e26 l26 0 []).1 = [pOr]:=by kernel_rfl
theorem qb35:qk Tryz.prog 16 [encV e26,.sl 4 [encP pOr,encP pLa,encP pEq]] (.tup [.sl 4 [encP pOr],.sl 4 [qb1 (.mk 1 0 [] []),qb1 P25b,qb1 (.mk 2 0 [] [.mk 1 0 [] []])],.int .i64 0,.int .i64 0]):=by
 have hlen:(hdsL e26 l26 0 []).1.length≤900000:=by
  have:=qox (e:=e26) (K:=4096) l26 0 [] fun p _=>qfw e26 p
  exact Nat.le_trans this (by decide)
 have h:=qfg (e:=e26) (l:=l26) 4096 qwy q4u q6j qb5g (fun p _=>qfw e26 p) (by decide) (by decide) hlen (by rw [qb65];intro q hq;simp at hq;subst hq;decide)
 rw [qb7m] at h
 simp only [rdA,qt] at h
 exact h
theorem qb5p:qk Tryz.prog 33 [encV e26,encP pLa] (.tup [.sl 4 [encP pEq],.int .i64 0]):=by
 have h:=qk4 (e:=e26) (p:=pLa) qwy q4u q6j (by decide) (by decide)
 rw [qb6x] at h
 exact h
theorem qb0t:qk Tryz.prog 34 [encV e26,.sl 4 [encP pOr,encP pOL]] (.tup [.sl 4 [],.int .i64 1,.int .i64 16]):=by
 have h:=qjs (e:=e26) (l:=[pOr,pOL]) 4096 qwy q4u q6j (by intro p hp;simp at hp;rcases hp with rfl | rfl<;>decide) (fun p _=>qfw e26 p) (by decide)
 rw [qb7g] at h
 exact h
theorem qb05:qk Tryz.prog 35 [encV e26,.sl 4 [encP pOr,encP pLa,encP pEq]] (.sl 4 [encP pOr,encP pLa]):=by
 have h:=qij (e:=e26) (l:=l26) qwy (by decide)
 rw [qb7j] at h
 exact h
theorem qbec:pOr.cls = [79,114,100]:=rfl
theorem qbd6:pEq.cls = [69,113]:=rfl
set_option maxHeartbeats 2000000 in
theorem qje:qk Tryz.prog 15 [] (.bool true):=by
 refine qd c0cy (by simp) rfl rfl fun hw=>?_
 repeat' (first | refine vs_ ?_ | ((first | refine vr_ ?_ | fail)<;>(try simp only [qbec,qbd6,Int.reduceEq,decide_true,decide_false,List.length_cons,List.length_nil,go_sem,↓reduceIte])) | ((first | simp (disch:=omega) only [qbec,qbd6] | (refine cs_ ?_ ?_<;>intro hc) | refine cj_ ?_ | simp (disch:=omega) only [encs_getN,qb] | refine qa qbx7 fun _=>?_ | refine qa qb35 fun _=>?_ | refine qa qb5p fun _=>?_ | refine qa qb0t fun _=>?_ | refine qa qb05 fun _=>?_ | refine qa qb5d fun _=>?_ | refine qc qbx7 ?_ | refine qc qb35 ?_ | refine qc qb5p ?_ | refine qc qb0t ?_ | refine qc qb05 ?_ | refine qc qb5d ?_)<;>(try refine ev_ ?_)) | with_reducible exact ti_)
 all_goals first | rfl | (exfalso;omega)
set_option maxRecDepth 4000

theorem q1j (l:List Pd):qk Tryz.prog 18 [.sl 4 (qg l),.sl 4 (qg l)] (.bool true):=by
 have:=qz8 l l
 rwa [(ql4 l l).2 rfl] at this
theorem qbuf {n:Nat} (h:n≤1000000):qbb n 64 = True:=eq_true (capP (by omega))
set_option maxHeartbeats 4000000 in
theorem qlo (e:Env) (l:List Pd):qk Tryz.prog 5 [encV e,.sl 4 (qg l)] (.bool true):=by
 refine qd c0cw (by simp) (by simp only [go_sem]) rfl fun hw=>?_
 have hF:=q3y e l
 have hlw:=(qca hw.2.1).1
 cases hfw:q8j e l with
 | false =>
   rw [hfw] at hF
   repeat' (first | refine vs_ ?_ | ((first | refine vr_ ?_ | refine qa hF fun _=>?_ | refine qa qje fun _=>?_ | refine qc hF ?_ | refine qc qje ?_ | (refine cs_ ?_ ?_<;>intro hc) | refine cj_ ?_ | simp (disch:=omega) only [encs_getN,qb])<;>(try refine ev_ ?_)) | with_reducible exact ti_)
 | true =>
   rw [hfw] at hF
   rw [q8j,Bool.and_eq_true,Bool.and_eq_true,Bool.and_eq_true,decide_eq_true_eq] at hfw
   obtain ⟨hfe,hl8,hfp,hd6⟩:=hfw
   obtain ⟨hf,hi,h30,_⟩:=(⟨qsd (by rw [fewE,Bool.and_eq_true] at hfe;exact hfe.1),fun x hx=>(qxn (l:=e.is) (fun x hx=>(qca (quc ((qe3 hw.1.2.2.1).2 x hx)).2.2.2).1) (by rw [fewE,Bool.and_eq_true] at hfe;exact hfe.2) x hx).1,fun x hx=>(qxn (l:=e.is) (fun x hx=>(qca (quc ((qe3 hw.1.2.2.1).2 x hx)).2.2.2).1) (by rw [fewE,Bool.and_eq_true] at hfe;exact hfe.2) x hx).2.1,trivial⟩:fewC e.cs∧(∀ x∈e.is,smlI x)∧(∀ x∈e.is,x.ps.length≤30)∧True)
   obtain ⟨_,hsz⟩:=qpj hlw hfp
   have h6:∀ p∈l,dpY p.ty≤6:=fun p hp=>by simpa using List.all_eq_true.1 hd6 p hp
   have hlen:=qox (e:=e) (K:=4096) l 0 [] fun p _=>qfw e p
   rw [List.length_nil,Nat.zero_add] at hlen
   have hl4:l.length * 4096≤8 * 4096:=Nat.mul_le_mul_right _ hl8
   have hlen2:(hdsL e l 0 []).1.length≤40000:=by omega
   have hfact:=qql (e:=e) h6
   have hM:∀ q∈simR e (hdsL e l 0 []).1,szY q.ty≤20000∧dpY q.ty≤300:=fun q hq=>by
    by_cases hc:(hdsL e l 0 []).2.2 = 0
    ·have hq2:q∈(hdsL e l 0 []).1:=by
      rw [simR,List.mem_filter] at hq
      rcases (qgb q _ []).1 hq.1 with h | h
      ·cases h
      ·exact h
     have:=qgc (hfact hc q hq2).1
     omega
    ·rw [qxu l 0 [] hc] at hq
     cases hq
   have hR1:=qfg (e:=e) (l:=l) 4096 hf hi h30 (fun p hp=>⟨(hsz p hp).1,h6 p hp⟩) (fun p _=>qfw e p) (by omega) (by omega) (by omega) hM
   obtain ⟨L1,L2⟩:=qbw5 (e:=e) h6
   generalize hr:redR e l = r at *
   obtain ⟨m,ps,ix,c⟩:=r
   unfold rdA at hR1
   dsimp only at hR1 L1 L2
   by_cases hc:c = 0
   case neg =>
    rw [L1 hc] at hR1
    have hcd:decide (c = 0) = false:=decide_eq_false hc
    generalize hz6:q0e = z6
    repeat' (first | refine vs_ ?_ | ((first | refine vr_ ?_ | fail)<;>(try simp only [hcd,hc,qw,List.length_nil,go_sem,↓reduceIte])) | ((first | (refine cs_ ?_ ?_<;>intro hc) | refine cj_ ?_ | simp (disch:=omega) only [encs_getN,qb] | refine qa hF fun _=>?_ | refine qa hR1 fun _=>?_ | refine qa qje fun _=>?_ | refine qc hF ?_ | refine qc hR1 ?_ | refine qc qje ?_)<;>(try refine ev_ ?_)) | with_reducible exact ti_)
    all_goals first | rfl | (exfalso;omega)
   subst hc
   obtain ⟨k1,k2,k3,k4,k5,k6,k7⟩:=L2 rfl
   have hml:m.length≤40000:=by omega
   have hlg:∀ q∈m,szY q.ty≤4096∧dpY q.ty≤100:=fun q hq=>by have:=qgc (k2 q hq).1;omega
   have hR2:=qfg (e:=e) (l:=m) 1 hf hi h30 (fun p hp=>⟨by have:=hlg p hp;omega,(k2 p hp).2.1⟩) (fun p hp=>by rw [qk5 (k2 p hp).1 (k2 p hp).2.2.2 (k2 p hp).2.2.1];simp) (by omega) (by omega) (by rw [k4];dsimp only;omega) (by rw [k4];dsimp only;rw [k5];intro q hq;have:=hlg q hq;omega)
   have hI:∀ i,i < m.length->qk Tryz.prog 17 [encV e,.sl 4 (qg (m.take i ++ m.drop (i + 1))),.sl 4 (qg [m.getD i P0])] (.bool false):=fun i hi'=>by
    have h:=qml (e:=e) (m.take i ++ m.drop (i + 1)) [m.getD i P0] hf hi (fun q hq=>by
     have hqm:q∈m:=by
      rcases List.mem_append.1 hq with hq | hq
      ·exact List.mem_of_mem_take hq
      ·exact List.mem_of_mem_drop hq
     have:=hlg q hqm
     omega) (fun q hq=>by rw [List.mem_singleton] at hq;subst hq;have:=hlg _ (qdf hi');omega) (by simp)
    have hne:(allW e (m.take i ++ m.drop (i + 1)) [m.getD i P0]).2.2≠0:=fun hh=>k3 i hi' ((qtj e _ _).1 hh _ (by simp))
    rwa [decide_eq_false hne] at h
   generalize redR e m = r2 at *
   obtain ⟨n2,ps2,ix2,c2⟩:=r2
   unfold rdA at hR2
   dsimp only at hR2 k6 k7
   subst k6 k7
   have hRow:=q1j n2
   clear hr
   repeat' (first | refine vs_ ?_ | ((first | refine vr_ ?_ | fail)<;>(try simp only [Int.reduceEq,decide_true,decide_false,go_sem,↓reduceIte])) | ((first | (refine cs_ ?_ ?_<;>intro hc) | refine cj_ ?_ | simp (disch:=omega) only [encs_getN,qb] | refine qa hF fun _=>?_ | refine qa hR1 fun _=>?_ | refine qc hF ?_ | refine qc hR1 ?_)<;>(try refine ev_ ?_)) | with_reducible exact ti_)
   all_goals try (exfalso;omega)
   have hmx:n2.length≤maxLen:=by unfold maxLen;omega
   refine qj (S:=Nat) (fun i=>i≤n2.length) (fun i=>(⟨[(2,.ptr 0 0),(5,.sl 4 (qg n2)),(9,.int .i64 i)],[]⟩,[.blk (evc e)])) (fun i=>n2.length - i) ?_ fun i hi'=>?_
   ·refine qf 0 [0] (Nat.zero_le _) rfl (by simp) ?_ ?_ ?_<;>(try refine ev_ ?_)<;>(try with_reducible exact ti_)<;>(try simp (disch:=omega) only [qb,and_true,true_and])
   ·by_cases hlt:i < n2.length
    ·have hIi:=hI i hlt
     have hltI:(i:Int) < (n2.length:Int):=by omega
     have hin:(i:Int).toNat = i:=by simp
     have hin1:((i + 1:Nat):Int).toNat = i + 1:=by omega
     have hle1:i≤n2.length:=by omega
     have hle2:i + 1≤n2.length:=by omega
     have hone:List.drop i (List.take (i + 1) n2) = [n2.getD i P0]:=by
      rw [List.drop_take,V.dropP hlt];simp
     have htl:(n2.take i).length = i:=by rw [List.length_take];omega
     have hdl:(n2.drop (i + 1)).length = n2.length - (i + 1):=List.length_drop
     generalize n2.getD i P0 = q at *
     generalize hA:n2.take i = A at *
     generalize hB:n2.drop (i + 1) = B at *
     have hc1:qbb A.length 64 = True:=qbuf (by omega)
     have hc2:qbb B.length 64 = True:=qbuf (by omega)
     have hc3:qbb (A.length + B.length) 64 = True:=qbuf (by omega)
     unfold q2c
     by_cases hA0:A.length = 0
     ·obtain rfl:A = []:=List.length_eq_zero_iff.1 hA0
      by_cases hB0:B.length = 0
      ·obtain rfl:B = []:=List.length_eq_zero_iff.1 hB0
       repeat' (first | refine vs_ ?_ | ((first | refine vr_ ?_ | fail)<;>(try simp (disch:=first | omega | (simp only [List.length_set,List.length_append,List.length_cons,List.length_nil];done) | (simp only [List.length_set,List.length_append,List.length_cons,List.length_nil];omega)) only [hltI,qb,hin,hin1,hle1,hle2,hone,hA,hB,qw,List.length_nil,go_sem,↓reduceIte])) | ((first | (refine cs_ ?_ ?_<;>intro hc) | refine cj_ ?_ | simp (disch:=omega) only [encs_getN,qb] | refine qa hIi fun _=>?_ | refine qc hIi ?_)<;>(try refine ev_ ?_)) | with_reducible exact ti_)
       refine qf (i + 1) [0] ⟨by omega,by omega⟩ rfl (by simp) ?_ ?_ ?_<;>(try refine ev_ ?_)<;>(try with_reducible exact ti_)<;>(try simp (disch:=omega) only [qb,and_true,true_and])
      ·repeat' (first | refine vs_ ?_ | ((first | refine vr_ ?_ | fail)<;>(try simp (disch:=first | omega | (simp only [List.length_set,List.length_append,List.length_cons,List.length_nil];done) | (simp only [List.length_set,List.length_append,List.length_cons,List.length_nil];omega)) only [hltI,qb,hin,hin1,hle1,hle2,hone,hA,hB,hB0,qw,List.length_nil,qi,go_sem,↓reduceIte])) | ((first | simp (disch:=omega) only [hc2] | (refine cs_ ?_ ?_<;>intro hc) | refine cj_ ?_ | simp (disch:=omega) only [encs_getN,qb] | refine qa hIi fun _=>?_ | refine qc hIi ?_)<;>(try refine ev_ ?_)) | with_reducible exact ti_)
       refine qf (i + 1) [0] ⟨by omega,by omega⟩ rfl (by simp) ?_ ?_ ?_<;>(try refine ev_ ?_)<;>(try with_reducible exact ti_)<;>(try simp (disch:=omega) only [qb,and_true,true_and])
     ·by_cases hB0:B.length = 0
      ·obtain rfl:B = []:=List.length_eq_zero_iff.1 hB0
       rw [List.append_nil] at hIi
       repeat' (first | refine vs_ ?_ | ((first | refine vr_ ?_ | fail)<;>(try simp (disch:=first | omega | (simp only [List.length_set,List.length_append,List.length_cons,List.length_nil];done) | (simp only [List.length_set,List.length_append,List.length_cons,List.length_nil];omega)) only [hltI,qb,hin,hin1,hle1,hle2,hone,hA,hB,hA0,qw,List.length_nil,List.append_nil,Nat.add_zero,qi,go_sem,↓reduceIte])) | ((first | simp (disch:=omega) only [hc1] | (refine cs_ ?_ ?_<;>intro hc) | refine cj_ ?_ | simp (disch:=omega) only [encs_getN,qb] | refine qa hIi fun _=>?_ | refine qc hIi ?_)<;>(try refine ev_ ?_)) | with_reducible exact ti_)
       refine qf (i + 1) [0] ⟨by omega,by omega⟩ rfl (by simp) ?_ ?_ ?_<;>(try refine ev_ ?_)<;>(try with_reducible exact ti_)<;>(try simp (disch:=omega) only [qb,and_true,true_and])
      ·repeat' (first | refine vs_ ?_ | ((first | refine vr_ ?_ | fail)<;>(try simp (disch:=first | omega | (simp only [List.length_set,List.length_append,List.length_cons,List.length_nil];done) | (simp only [List.length_set,List.length_append,List.length_cons,List.length_nil];omega)) only [hltI,qb,hin,hin1,hle1,hle2,hone,hA,hB,hA0,hB0,qi,q5s,go_sem,↓reduceIte])) | ((first | simp (disch:=omega) only [hc1] | simp (disch:=omega) only [hc2] | simp (disch:=omega) only [hc3] | (refine cs_ ?_ ?_<;>intro hc) | refine cj_ ?_ | simp (disch:=omega) only [encs_getN,qb] | refine qa hIi fun _=>?_ | refine qc hIi ?_)<;>(try refine ev_ ?_)) | with_reducible exact ti_)
       refine qf (i + 1) [0] ⟨by omega,by omega⟩ rfl (by simp) ?_ ?_ ?_<;>(try refine ev_ ?_)<;>(try with_reducible exact ti_)<;>(try simp (disch:=omega) only [qb,and_true,true_and])
    ·have hltI:¬ (i:Int) < (n2.length:Int):=by omega
     repeat' (first | refine vs_ ?_ | ((first | refine vr_ ?_ | fail)<;>(try simp only [hltI,Int.reduceEq,decide_true,decide_false,go_sem,↓reduceIte])) | ((first | (refine cs_ ?_ ?_<;>intro hc) | refine cj_ ?_ | simp (disch:=omega) only [encs_getN,qb] | refine qa hR2 fun _=>?_ | refine qa hRow fun _=>?_ | refine qa qje fun _=>?_ | refine qc hR2 ?_ | refine qc hRow ?_ | refine qc qje ?_)<;>(try refine ev_ ?_)) | with_reducible exact ti_)
     all_goals try (exfalso;omega)
     all_goals trace_state
end Go.Proofs.YtgglaabljlhliaaGreat
