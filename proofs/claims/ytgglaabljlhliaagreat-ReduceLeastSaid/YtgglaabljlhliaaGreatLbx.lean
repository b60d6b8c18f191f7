/- Texts of this proof, joined. -/
import Derived.Test.YtgglaabljlhliaaGreatLbv
import Derived.Test.YtgglaabljlhliaaGreatLbw
import Derived.Test.YtgglaabljlhliaaGreatLbs
import Derived.Test.YtgglaabljlhliaaGreatLbm
import Derived.Test.YtgglaabljlhliaaGreatLbk
set_option linter.unusedVariables false
set_option linter.unusedSimpArgs false

/- reduced predicates: what one hangs on -/
set_option maxRecDepth 4000
namespace Go.Proofs.YtgglaabljlhliaaGreat
open Go Go.RowKit Go.V

theorem qq6 (p:Pd):qk Tryz.prog 92 [encP p] (.bool (qcf p)):=by
 refine qd c0dg (by simp) (by simp only [go_sem]) rfl fun hw=>?_
 unfold qcf
 repeat' (first | refine vs_ ?_ | ((first | refine vr_ ?_ | refine qa (qu2 p) fun _=>?_ | refine qa (qm _ _) fun _=>?_ | (refine cs_ ?_ ?_<;>intro hc) | refine cj_ ?_ | fail)<;>(try refine ev_ ?_)) | with_reducible exact ti_)
 all_goals first | rfl | (simp_all;done) | trace_state
def wkH (e:Env) (w:WK):List Ent :=
 if w.done = [] then [.blk [.sl 3 e.ds,.sl 3 (qbs e.cs),.sl 4 (qbv e.is),.nils,.nils]]
 else if w.out = [] then [.blk [.sl 3 e.ds,.sl 3 (qbs e.cs),.sl 4 (qbv e.is),.nils,.row 1 w.done.length],.app 4 (qg w.done)]
 else [.blk [.sl 3 e.ds,.sl 3 (qbs e.cs),.sl 4 (qbv e.is),.row 2 w.out.length,.row 1 w.done.length],.app 4 (qg w.done),.app 4 (qg w.out)]
abbrev wkE (e:Env) (w:WK):Ent:=bun (wkH e w)
theorem qbn8 (e:Env) {w:WK} (h:w.done = []):wkH e w = [.blk [.sl 3 e.ds,.sl 3 (qbs e.cs),.sl 4 (qbv e.is),.nils,.nils]]:=by rw [wkH,if_pos h]
theorem q99 (e:Env) {w:WK} (h:w.done≠[]) (h2:w.out = []):wkH e w = [.blk [.sl 3 e.ds,.sl 3 (qbs e.cs),.sl 4 (qbv e.is),.nils,.row 1 w.done.length],.app 4 (qg w.done)]:=by rw [wkH,if_neg h,if_pos h2]
theorem q86 (e:Env) {w:WK} (h:w.done≠[]) (h2:w.out≠[]):wkH e w = [.blk [.sl 3 e.ds,.sl 3 (qbs e.cs),.sl 4 (qbv e.is),.row 2 w.out.length,.row 1 w.done.length],.app 4 (qg w.done),.app 4 (qg w.out)]:=by rw [wkH,if_neg h,if_neg h2]
section
variable {P:Program} {H:List Ent} {fr:Option Nat} {n m:Nat} {a:IC} {QV:VE->AF->List Ent->Prop} {af:AF} {e:Env} {w:WK}
theorem qvp (k:Nat) (h:w.done≠[]) (h2:w.out = []) (hq:VI P fr n m a QV af ((H.set k .dead).set 0 (wkE e w))) (h0:ent H 0 = .blk [.sl 3 e.ds,.sl 3 (qbs e.cs),.sl 4 (qbv e.is),.nils,.row k w.done.length]) (h1:ent H k = .app 4 (qg w.done)) (hk:0 < k) (hl:k < H.length):VI P fr n m a QV af H:=by
 refine qvd 0 [k] (H1:=wkH e w) (by rw [q99 e h h2];simp) (by simp;omega) ?_ hq
 rw [q99 e h h2]
 refine ⟨⟨by omega,by simp only [Ent.bd,AV.bds,AV.bd,q0h,qgx,qg0];rfl,by rw [h0];simp only [Ent.ren,AV.rens,AV.ren,qh0,qc5,qc2];rfl⟩,⟨hl,qbk _ _,by rw [h1];simp only [Ent.ren,qbp]⟩,trivial⟩
theorem qm6 (k j:Nat) (h:w.done≠[]) (h2:w.out≠[]) (hq:VI P fr n m a QV af (((H.set k .dead).set j .dead).set 0 (wkE e w))) (h0:ent H 0 = .blk [.sl 3 e.ds,.sl 3 (qbs e.cs),.sl 4 (qbv e.is),.row j w.out.length,.row k w.done.length]) (h1:ent H k = .app 4 (qg w.done)) (h3:ent H j = .app 4 (qg w.out)) (hk:0 < k) (hj:0 < j) (hkj:k≠j) (hl:k < H.length) (hl2:j < H.length):VI P fr n m a QV af H:=by
 refine qvd 0 [k,j] (H1:=wkH e w) (by rw [q86 e h h2];simp) (by simp;omega) ?_ hq
 rw [q86 e h h2]
 refine ⟨⟨by omega,by simp only [Ent.bd,AV.bds,AV.bd,q0h,qgx,qg0];rfl,by rw [h0];simp only [Ent.ren,AV.rens,AV.ren,qh0,qc5,qc2];rfl⟩,⟨hl,qbk _ _,by rw [h1];simp only [Ent.ren,qbp]⟩,⟨hl2,qbk _ _,by rw [h3];simp only [Ent.ren,qbp]⟩,trivial⟩
theorem qb20 (h:w.done = []) (hq:VI P fr n m a QV af (H.set 0 (.blk [.sl 3 e.ds,.sl 3 (qbs e.cs),.sl 4 (qbv e.is),.nils,.nils]))) (he:ent H 0 = wkE e w) (hm:m≤H.length):VI P fr n m a QV af H:=by
 refine qi3 0 (by rw [he,wkE,qbn8 e h]) hm ?_
 simp only [Ent.ren,AV.rens,AV.ren,qh0,qc5,qc2,List.map_nil,List.append_nil]
 exact hq
theorem qw0 (h:w.done≠[]) (h2:w.out = []) (hq:VI P fr n m a QV af (H.set 0 (.blk [.sl 3 e.ds,.sl 3 (qbs e.cs),.sl 4 (qbv e.is),.nils,.row H.length w.done.length]) ++ [.app 4 (qg w.done)])) (he:ent H 0 = wkE e w) (hm:m≤H.length):VI P fr n m a QV af H:=by
 refine qi3 0 (by rw [he,wkE,q99 e h h2]) hm ?_
 simp only [Ent.ren,AV.rens,AV.ren,qh0,qc5,qc2,qbp,List.map_cons,List.map_nil]
 exact hq
theorem qw1 (h:w.done≠[]) (h2:w.out≠[]) (hq:VI P fr n m a QV af (H.set 0 (.blk [.sl 3 e.ds,.sl 3 (qbs e.cs),.sl 4 (qbv e.is),.row (H.length + 1) w.out.length,.row H.length w.done.length]) ++ [.app 4 (qg w.done),.app 4 (qg w.out)])) (he:ent H 0 = wkE e w) (hm:m≤H.length):VI P fr n m a QV af H:=by
 refine qi3 0 (by rw [he,wkE,q86 e h h2]) hm ?_
 simp only [Ent.ren,AV.rens,AV.ren,qh0,qc5,qc2,qbp,List.map_cons,List.map_nil]
 exact hq
end
def qbp5 (e:Env) (f:Nat):Prop:=∀ (p:Pd) (w:WK),qbn p = true->dpY p.ty < f->w.ok->w.done.length + cntR f≤999999999->VM Tryz.prog 58 (wkE e w) (wkE e (addF e f p w).2) [.ptr 0 0,encP p] (.int .i64 (addF e f p w).1)
set_option maxHeartbeats 2000000 in
theorem qbag {e:Env} (hi:∀ x∈e.is,smlI x) (hW:smW e) (hW30:∀ p,(byI e.is p).2.1.length≤30) (f:Nat) (ih:qbp5 e f):qbp5 e (f + 1):=by
 intro p w hL hd hok hcnt
 obtain ⟨h1,h2,_⟩:=qgc hL
 have hH:=qc4 w.done p
 have hP:=qq6 p
 have hB:=qvf hi (p:=p) (by omega) (by omega)
 obtain ⟨w1,w2⟩:=hW p hL
 have hwl:=hW30 p
 obtain ⟨ok1,ok2⟩:=hok
 rw [cntR] at hcnt
 have hcap1:qbb (w.done.length + 1) 64 = True:=eq_true (capP (by omega))
 have hcap2:qbb (w.out.length + 1) 64 = True:=eq_true (capP (by omega))
 have hcap0:qbb 1 64 = True:=eq_true (capP (by omega))
 have hx1:1≤maxLen:=by unfold maxLen;omega
 have hx2:w.out.length + 1≤maxLen:=by unfold maxLen;omega
 refine qr c0dh 1 (by simp) (by simp) ?_
 rw [addF]
 unfold k0dh
 cases hh:hasP w.done p with
 | true =>
   rw [hh] at hH
   rw [if_pos rfl]
   have hdn:w.done≠[]:=fun h=>by rw [h] at hh;cases hh
   generalize hz3:IC.seq q11 _ = z3
   by_cases ho:w.out = []
   ·refine qw0 hdn ho ?_ rfl (by simp)
    simp only [List.length_singleton,List.set_cons_zero,List.cons_append,List.nil_append]
    unfold qui
    generalize hr2:IC.seq (.reg false _) IC.ret = r2
    repeat' (first | refine vs_ ?_ | ((first | refine vr_ ?_ | fail)<;>(try simp only [qi,go_sem,↓reduceIte])) | ((first | (refine cs_ ?_ ?_<;>intro hc) | refine cj_ ?_ | simp (disch:=omega) only [encs_getN,qb] | refine qa hH fun _=>?_ | refine qc hH ?_)<;>(try refine ev_ ?_)) | with_reducible exact ti_)
    refine qvp 1 hdn ho ?_ rfl rfl (by omega) (by simp)
    simp only [List.set_cons_zero,List.set_cons_succ]
    subst hr2
    repeat' (first | refine vs_ ?_ | ((first | refine vr_ ?_ | (refine cs_ ?_ ?_<;>intro hc) | refine cj_ ?_ | simp (disch:=omega) only [encs_getN,qb])<;>(try refine ev_ ?_)) | with_reducible exact ti_)
    trace_state
   ·refine qw1 hdn ho ?_ rfl (by simp)
    simp only [List.length_singleton,List.set_cons_zero,List.cons_append,List.nil_append]
    unfold qui
    generalize hr2:IC.seq (.reg false _) IC.ret = r2
    repeat' (first | refine vs_ ?_ | ((first | refine vr_ ?_ | fail)<;>(try simp only [qi,go_sem,↓reduceIte])) | ((first | (refine cs_ ?_ ?_<;>intro hc) | refine cj_ ?_ | simp (disch:=omega) only [encs_getN,qb] | refine qa hH fun _=>?_ | refine qc hH ?_)<;>(try refine ev_ ?_)) | with_reducible exact ti_)
    refine qm6 1 2 hdn ho ?_ rfl rfl rfl (by omega) (by omega) (by omega) (by simp) (by simp)
    simp only [List.set_cons_zero,List.set_cons_succ]
    subst hr2
    repeat' (first | refine vs_ ?_ | ((first | refine vr_ ?_ | (refine cs_ ?_ ?_<;>intro hc) | refine cj_ ?_ | simp (disch:=omega) only [encs_getN,qb])<;>(try refine ev_ ?_)) | with_reducible exact ti_)
    trace_state
 | false =>
   rw [hh] at hH
   rw [if_neg (by simp)]
   obtain ⟨w',hw'⟩:∃ w':WK,w' = ⟨w.out,w.done ++ [p]⟩:=⟨_,rfl⟩
   have hd':w'.done≠[]:=by rw [hw'];simp
   have ho':w'.out = w.out:=by rw [hw']
   have hdl':w'.done.length = w.done.length + 1:=by rw [hw'];simp
   have hde:qg w'.done = qg w.done ++ [encP p]:=by rw [hw',qb8]
   have hw1:w'.ok:=⟨by rw [ho',hdl'];omega,fun h=>absurd h hd'⟩
   rw [← hw']
   obtain ⟨z4,hz4⟩:∃ z,IC.seq (IC.seq q2l (IC.cond (.t 28) (IC.seq qty (IC.seq (IC.seq q3i (IC.cond (.t 44) (IC.seq qtt .ret) .skip)) (IC.seq qs9 .ret))) .skip)) (IC.seq qur (IC.seq (IC.seq qod (IC.cond (.t 57) (IC.seq qpg .ret) .skip)) (IC.seq (IC.seq qj4 (IC.block 0 (IC.loop qpl))) (IC.seq qo6 .ret)))) = z:=⟨_,rfl⟩
   rw [hz4]
   generalize hR:(if qcf p = true then (if 4096 < w.out.length + 1 then (2:Int) else 0,(⟨w.out ++ [p],w.done ++ [p]⟩:WK)) else if (byI e.is p).2.2 = true then addL (addF e f) (byI e.is p).2.1 w' else (16,w')) = R
   have rest:VI Tryz.prog none 71 1 z4 (retq 1 [(RV.t 4,Co.id)] fun H' o=>H' = [wkE e R.2]∧o = .val (.int .i64 R.1)) ⟨[(0,.ptr 0 0),(3,.ptr 1 0)],[]⟩ [wkE e w',.blk (pdc p)]:=by
    rw [← hz4]
    cases hpl:qcf p with
    | true =>
      rw [hpl] at hP hR
      rw [if_pos rfl] at hR
      obtain ⟨w'',hw''⟩:∃ w'':WK,w'' = ⟨w.out ++ [p],w.done ++ [p]⟩:=⟨_,rfl⟩
      rw [← hw''] at hR
      have hd2:w''.done≠[]:=by rw [hw''];simp
      have ho2:w''.out≠[]:=by rw [hw''];simp
      have hdd2:w''.done.length = w'.done.length:=by rw [hw'',hw']
      have hol2:w''.out.length = w.out.length + 1:=by rw [hw''];simp
      have hde2:qg w''.done = qg w'.done:=by rw [hw'',hw']
      have hoe2:qg w''.out = qg w.out ++ [encP p]:=by rw [hw'',qb8]
      generalize hz5:IC.seq qty _ = z5
      repeat' (first | refine vs_ ?_ | ((first | refine vr_ ?_ | refine qa hP fun _=>?_ | refine qc hP ?_ | (refine cs_ ?_ ?_<;>intro hc) | refine cj_ ?_ | simp (disch:=omega) only [encs_getN,qb])<;>(try refine ev_ ?_)) | with_reducible exact ti_)
      subst hz5
      generalize hz7:IC.seq qtt _ = z7
      generalize hz8:IC.seq qs9 _ = z8
      by_cases ho:w.out = []
      ·have hbig:¬ 4096 < w.out.length + 1:=by rw [ho];simp
       rw [if_neg hbig] at hR
       subst hR
       refine qw0 hd' (by rw [ho',ho]) ?_ rfl (by simp)
       simp only [List.length_cons,List.length_nil,List.set_cons_zero,List.cons_append,List.nil_append]
       repeat' (first | refine vs_ ?_ | ((first | refine vr_ ?_ | fail)<;>(try simp only [qi,Int.reduceLT,decide_false,go_sem,↓reduceIte])) | ((first | simp (disch:=omega) only [hcap0] | (refine cs_ ?_ ?_<;>intro hc) | refine cj_ ?_ | simp (disch:=omega) only [encs_getN,qb])<;>(try refine ev_ ?_)) | with_reducible exact ti_)
       all_goals try (exfalso;omega)
       refine qm6 (e:=e) (w:=w'') 2 3 hd2 ho2 ?q1 ?a1 ?b1 ?c1 (by omega) (by omega) (by omega) ?d1 ?g1
       case a1=>rw [hdd2,hol2,ho];rfl
       case b1=>rw [hde2];rfl
       case c1=>rw [hoe2,ho];rfl
       case d1=>simp
       case g1=>simp
       simp only [List.set_cons_zero,List.set_cons_succ]
       subst hz8
       repeat' (first | refine vs_ ?_ | ((first | refine vr_ ?_ | (refine cs_ ?_ ?_<;>intro hc) | refine cj_ ?_ | simp (disch:=omega) only [encs_getN,qb])<;>(try refine ev_ ?_)) | with_reducible exact ti_)
      ·have hbigI:(4096:Int) < ((w.out.length + 1:Nat):Int) ↔ 4096 < w.out.length + 1:=by omega
       refine qw1 hd' (by rw [ho'];exact ho) ?_ rfl (by simp)
       simp only [List.length_cons,List.length_nil,List.set_cons_zero,List.cons_append,List.nil_append,ho']
       by_cases hbig:4096 < w.out.length + 1
       ·rw [if_pos hbig] at hR
        subst hR
        have hbI:=hbigI.2 hbig
        repeat' (first | refine vs_ ?_ | ((first | refine vr_ ?_ | fail)<;>(try simp only [qi,hbI,decide_true,go_sem,↓reduceIte])) | ((first | simp (disch:=omega) only [hcap2] | (refine cs_ ?_ ?_<;>intro hc) | refine cj_ ?_ | simp (disch:=omega) only [encs_getN,qb])<;>(try refine ev_ ?_)) | with_reducible exact ti_)
        all_goals try (exfalso;omega)
        refine qm6 (e:=e) (w:=w'') 2 4 hd2 ho2 ?q2 ?a2 ?b2 ?c2 (by omega) (by omega) (by omega) ?d2 ?g2
        case a2=>rw [hdd2,hol2];rfl
        case b2=>rw [hde2];rfl
        case c2=>rw [hoe2];rfl
        case d2=>simp
        case g2=>simp
        simp only [List.set_cons_zero,List.set_cons_succ]
        subst hz7
        repeat' (first | refine vs_ ?_ | ((first | refine vr_ ?_ | (refine cs_ ?_ ?_<;>intro hc) | refine cj_ ?_ | simp (disch:=omega) only [encs_getN,qb])<;>(try refine ev_ ?_)) | with_reducible exact ti_)
       ·rw [if_neg hbig] at hR
        subst hR
        have hbI:=fun h=>hbig (hbigI.1 h)
        repeat' (first | refine vs_ ?_ | ((first | refine vr_ ?_ | fail)<;>(try simp only [qi,hbI,decide_false,go_sem,↓reduceIte])) | ((first | simp (disch:=omega) only [hcap2] | (refine cs_ ?_ ?_<;>intro hc) | refine cj_ ?_ | simp (disch:=omega) only [encs_getN,qb])<;>(try refine ev_ ?_)) | with_reducible exact ti_)
        all_goals try (exfalso;omega)
        refine qm6 (e:=e) (w:=w'') 2 4 hd2 ho2 ?q3 ?a3 ?b3 ?c3 (by omega) (by omega) (by omega) ?d3 ?g3
        case a3=>rw [hdd2,hol2];rfl
        case b3=>rw [hde2];rfl
        case c3=>rw [hoe2];rfl
        case d3=>simp
        case g3=>simp
        simp only [List.set_cons_zero,List.set_cons_succ]
        subst hz8
        repeat' (first | refine vs_ ?_ | ((first | refine vr_ ?_ | (refine cs_ ?_ ?_<;>intro hc) | refine cj_ ?_ | simp (disch:=omega) only [encs_getN,qb])<;>(try refine ev_ ?_)) | with_reducible exact ti_)
    | false =>
      rw [hpl] at hP hR
      rw [if_neg (by simp)] at hR
      generalize byI e.is p = by' at *
      obtain ⟨k,wants,ok⟩:=by'
      unfold byA at hB
      dsimp only at hB w1 w2 hwl hR
      generalize hz9:IC.seq qur _ = z9
      repeat' (first | refine vs_ ?_ | ((first | refine vr_ ?_ | refine qa hP fun _=>?_ | refine qc hP ?_ | (refine cs_ ?_ ?_<;>intro hc) | refine cj_ ?_ | simp (disch:=omega) only [encs_getN,qb])<;>(try refine ev_ ?_)) | with_reducible exact ti_)
      subst hz9
      obtain ⟨z10,hz10⟩:∃ z,IC.seq (IC.seq qod (IC.cond (.t 57) (IC.seq qpg .ret) .skip)) (IC.seq (IC.seq qj4 (IC.block 0 (IC.loop qpl))) (IC.seq qo6 .ret)) = z:=⟨_,rfl⟩
      rw [hz10]
      have rest2:VI Tryz.prog none 71 1 z10 (retq 1 [(RV.t 4,Co.id)] fun H' o=>H' = [wkE e R.2]∧o = .val (.int .i64 R.1)) ⟨[(0,.ptr 0 0),(6,.sl 4 (qg wants)),(7,.bool ok)],[]⟩ [wkE e w']:=by
       rw [← hz10]
       cases ok with
       | false =>
         rw [if_neg (by simp)] at hR
         subst hR
         generalize hz12:IC.seq (IC.seq qj4 _) _ = z12
         repeat' (first | refine vs_ ?_ | ((first | refine vr_ ?_ | (refine cs_ ?_ ?_<;>intro hc) | refine cj_ ?_ | simp (disch:=omega) only [encs_getN,qb])<;>(try refine ev_ ?_)) | with_reducible exact ti_)
       | true =>
         rw [if_pos rfl] at hR
         subst hR
         repeat' (first | refine vs_ ?_ | ((first | refine vr_ ?_ | (refine cs_ ?_ ?_<;>intro hc) | refine cj_ ?_ | simp (disch:=omega) only [encs_getN,qb])<;>(try refine ev_ ?_)) | with_reducible exact ti_)
         refine qj (S:=Nat×WK) (fun x=>x.1≤wants.length∧addL (addF e f) (wants.drop x.1) x.2 = addL (addF e f) wants w'∧x.2.ok∧x.2.done.length + (wants.length - x.1) * cntR f≤999999999) (fun x=>(⟨[(0,.ptr 0 0),(58,.sl 4 (qg wants)),(59,.int .i64 wants.length),(60,.int .i64 x.1)],[]⟩,[wkE e x.2])) (fun x=>wants.length - x.1) ?_ fun x hx=>?_
         ·refine qf (0,w') [0] ⟨Nat.zero_le _,rfl,hw1,?_⟩ rfl (by simp) ?_ ?_ ?_<;>(try refine ev_ ?_)<;>(try with_reducible exact ti_)<;>(try simp (disch:=omega) only [qb,and_true,true_and])
          have:(wants.length - 0) * cntR f≤30 * cntR f:=Nat.mul_le_mul_right _ (by omega)
          omega
         ·obtain ⟨j,u⟩:=x
          obtain ⟨x1,x2,x3,x4⟩:=hx
          dsimp only at x1 x2 x3 x4 ⊢
          by_cases hlt:j < wants.length
          ·have hg:=q8 hlt
           rw [V.dropP hlt,addL] at x2
           obtain ⟨y1,y2⟩:=w2 _ (qdf hlt)
           have hsp:(wants.length - j) * cntR f = cntR f + (wants.length - (j + 1)) * cntR f:=by
            rw [show wants.length - j = (wants.length - (j + 1)) + 1 by omega,Nat.add_mul,Nat.one_mul,Nat.add_comm]
           have hq:=ih (wants.getD j P0) u y1 (by omega) x3 (by omega)
           obtain ⟨z1,z2⟩:=qpu hW30 f (wants.getD j P0) u x3
           have hltI:(j:Int) < (wants.length:Int):=by omega
           generalize wants.getD j P0 = q at *
           generalize addF e f q u = r at *
           obtain ⟨c,u'⟩:=r
           dsimp only at hq x2 z1 z2
           repeat' (first | refine vs_ ?_ | ((first | refine vr_ ?_ | fail)<;>(try simp (disch:=first | omega | (simp only [List.length_set,List.length_append,List.length_cons,List.length_nil];done) | (simp only [List.length_set,List.length_append,List.length_cons,List.length_nil];omega)) only [hg,hltI,qb,go_sem,↓reduceIte])) | ((first | simp (disch:=omega) only [hg] | (refine cs_ ?_ ?_<;>intro hc) | refine cj_ ?_ | simp (disch:=omega) only [encs_getN,qb])<;>(try refine ev_ ?_)) | with_reducible exact ti_)
           refine qf2 0 hq (by simp only [AV.bds,qlx];rfl) rfl ?_
           simp only [qeq]
           (simp (disch:=first | omega | (simp only [List.length_set,List.length_append,List.length_cons,List.length_nil];done) | (simp only [List.length_set,List.length_append,List.length_cons,List.length_nil];omega)) only [qb,go_sem,↓reduceIte])
           by_cases hc0:c = 0
           ·rw [if_pos hc0] at x2
            subst hc0
            repeat' (first | refine vs_ ?_ | ((first | refine vr_ ?_ | fail)<;>(try simp (disch:=first | omega | (simp only [List.length_set,List.length_append,List.length_cons,List.length_nil];done) | (simp only [List.length_set,List.length_append,List.length_cons,List.length_nil];omega)) only [qb,Int.reduceEq,decide_true,go_sem,↓reduceIte])) | ((first | (refine cs_ ?_ ?_<;>intro hc) | refine cj_ ?_ | simp (disch:=omega) only [encs_getN,qb])<;>(try refine ev_ ?_)) | with_reducible exact ti_)
            all_goals try (exfalso;omega)
            refine qf (j + 1,u') [0] ⟨⟨by dsimp only;omega,x2,z1,by dsimp only;omega⟩,by dsimp only;omega⟩ rfl (by simp) ?_ ?_ ?_<;>(try refine ev_ ?_)<;>(try with_reducible exact ti_)<;>(try simp (disch:=omega) only [qb,and_true,true_and])
            all_goals (rw [qbc (by omega) (by omega)];rfl)
           ·rw [if_neg hc0] at x2
            have hcd:decide (c = 0) = false:=decide_eq_false hc0
            repeat' (first | refine vs_ ?_ | ((first | refine vr_ ?_ | fail)<;>(try simp only [hcd,hc0,go_sem,↓reduceIte])) | ((first | (refine cs_ ?_ ?_<;>intro hc) | refine cj_ ?_ | simp (disch:=omega) only [encs_getN,qb])<;>(try refine ev_ ?_)) | with_reducible exact ti_)
            all_goals try (exfalso;omega)
            all_goals (rw [← x2];exact ⟨rfl,rfl⟩)
          ·rw [List.drop_of_length_le (by omega),addL] at x2
           have hltI:¬ (j:Int) < (wants.length:Int):=by omega
           repeat' (first | refine vs_ ?_ | ((first | refine vr_ ?_ | fail)<;>(try simp only [hltI,go_sem,↓reduceIte])) | ((first | (refine cs_ ?_ ?_<;>intro hc) | refine cj_ ?_ | simp (disch:=omega) only [encs_getN,qb])<;>(try refine ev_ ?_)) | with_reducible exact ti_)
           all_goals (rw [← x2];exact ⟨rfl,rfl⟩)
      by_cases ho:w.out = []
      ·refine qw0 hd' (by rw [ho',ho]) ?_ rfl (by simp)
       simp only [List.length_cons,List.length_nil,List.set_cons_zero,List.cons_append,List.nil_append]
       repeat' (first | refine vs_ ?_ | ((first | refine vr_ ?_ | fail)<;>(try simp only [qi,go_sem,↓reduceIte])) | ((first | (refine cs_ ?_ ?_<;>intro hc) | refine cj_ ?_ | simp (disch:=omega) only [encs_getN,qb] | refine qa hB fun _=>?_ | refine qc hB ?_)<;>(try refine ev_ ?_)) | with_reducible exact ti_)
       refine qvp (w:=w') 2 hd' (by rw [ho',ho]) ?_ rfl rfl (by omega) (by simp)
       simp only [List.set_cons_zero,List.set_cons_succ]
       refine quy rest2 (qx0 [0] rfl (by simp) ?_ ?_ ?_)<;>(try refine ev_ ?_)<;>(try with_reducible exact ti_)<;>(try simp (disch:=omega) only [qb,and_true,true_and])
      ·refine qw1 hd' (by rw [ho'];exact ho) ?_ rfl (by simp)
       simp only [List.length_cons,List.length_nil,List.set_cons_zero,List.cons_append,List.nil_append]
       repeat' (first | refine vs_ ?_ | ((first | refine vr_ ?_ | fail)<;>(try simp only [qi,go_sem,↓reduceIte])) | ((first | (refine cs_ ?_ ?_<;>intro hc) | refine cj_ ?_ | simp (disch:=omega) only [encs_getN,qb] | refine qa hB fun _=>?_ | refine qc hB ?_)<;>(try refine ev_ ?_)) | with_reducible exact ti_)
       refine qm6 (w:=w') 2 3 hd' (by rw [ho'];exact ho) ?_ rfl rfl rfl (by omega) (by omega) (by omega) (by simp) (by simp)
       simp only [List.set_cons_zero,List.set_cons_succ]
       refine quy rest2 (qx0 [0] rfl (by simp) ?_ ?_ ?_)<;>(try refine ev_ ?_)<;>(try with_reducible exact ti_)<;>(try simp (disch:=omega) only [qb,and_true,true_and])
   generalize hz1:IC.seq (IC.seq q6c _) _ = z1
   repeat' (first | refine vs_ ?_ | ((first | refine vr_ ?_ | (refine cs_ ?_ ?_<;>intro hc) | refine cj_ ?_ | simp (disch:=omega) only [encs_getN,qb])<;>(try refine ev_ ?_)) | with_reducible exact ti_)
   subst hz1
   by_cases hdn:w.done = []
   ·have ho:=ok2 hdn
    refine qb20 hdn ?_ rfl (by simp)
    simp only [List.set_cons_zero]
    rw [hdn] at hH
    repeat' (first | refine vs_ ?_ | ((first | refine vr_ ?_ | fail)<;>(try simp only [qi,q7,go_sem,↓reduceIte])) | ((first | simp (disch:=omega) only [hcap0] | (refine cs_ ?_ ?_<;>intro hc) | refine cj_ ?_ | simp (disch:=omega) only [encs_getN,qb] | refine qa hH fun _=>?_ | refine qc hH ?_)<;>(try refine ev_ ?_)) | with_reducible exact ti_)
    refine qvp (w:=w') 2 hd' (by rw [ho',ho]) ?_ (by rw [hdl',hdn];rfl) (by rw [hde,hdn];rfl) (by omega) (by simp)
    simp only [List.set_cons_zero,List.set_cons_succ]
    refine quy rest (qx0 [0,1] rfl (by simp) ?_ ?_ ?_)<;>(try refine ev_ ?_)<;>(try with_reducible exact ti_)<;>(try simp (disch:=omega) only [qb,and_true,true_and])
   ·by_cases ho:w.out = []
    ·refine qw0 hdn ho ?_ rfl (by simp)
     simp only [List.length_cons,List.length_nil,List.set_cons_zero,List.cons_append,List.nil_append]
     repeat' (first | refine vs_ ?_ | ((first | refine vr_ ?_ | fail)<;>(try simp only [qi,go_sem,↓reduceIte])) | ((first | simp (disch:=omega) only [hcap1] | (refine cs_ ?_ ?_<;>intro hc) | refine cj_ ?_ | simp (disch:=omega) only [encs_getN,qb] | refine qa hH fun _=>?_ | refine qc hH ?_)<;>(try refine ev_ ?_)) | with_reducible exact ti_)
     refine qvp (w:=w') 3 hd' (by rw [ho',ho]) ?_ (by rw [hdl'];rfl) (by rw [hde];rfl) (by omega) (by simp)
     simp only [List.set_cons_zero,List.set_cons_succ]
     refine quy rest (qx0 [0,1] rfl (by simp) ?_ ?_ ?_)<;>(try refine ev_ ?_)<;>(try with_reducible exact ti_)<;>(try simp (disch:=omega) only [qb,and_true,true_and])
    ·refine qw1 hdn ho ?_ rfl (by simp)
     simp only [List.length_cons,List.length_nil,List.set_cons_zero,List.cons_append,List.nil_append]
     repeat' (first | refine vs_ ?_ | ((first | refine vr_ ?_ | fail)<;>(try simp only [qi,go_sem,↓reduceIte])) | ((first | simp (disch:=omega) only [hcap1] | (refine cs_ ?_ ?_<;>intro hc) | refine cj_ ?_ | simp (disch:=omega) only [encs_getN,qb] | refine qa hH fun _=>?_ | refine qc hH ?_)<;>(try refine ev_ ?_)) | with_reducible exact ti_)
     refine qm6 (w:=w') 4 3 hd' (by rw [ho'];exact ho) ?_ (by rw [hdl',ho'];rfl) (by rw [hde];rfl) (by rw [ho'];rfl) (by omega) (by omega) (by omega) (by simp) (by simp)
     simp only [List.set_cons_zero,List.set_cons_succ]
     refine quy rest (qx0 [0,1] rfl (by simp) ?_ ?_ ?_)<;>(try refine ev_ ?_)<;>(try with_reducible exact ti_)<;>(try simp (disch:=omega) only [qb,and_true,true_and])
set_option maxRecDepth 4000

theorem qbee {e:Env} (hi:∀ x∈e.is,smlI x) (hW:smW e) (hW30:∀ p,(byI e.is p).2.1.length≤30):∀ f,qbp5 e f
 | 0=>fun p w _ h=>absurd h (by omega)
 | f + 1=>qbag hi hW hW30 f (qbee hi hW hW30 f)
theorem qwc (s:List Pr):∀ (a acc:List Pd),(prdR s acc a).1.length≤acc.length + a.length
 | [],acc=>by simp [prdR]
 | p :: r, acc => by
   rw [prdR]
   split
   ·have:=qwc s r (acc ++ [⟨p.cls,(appR s p.ty).1⟩])
    rw [List.length_append] at this
    simp only [List.length_cons,List.length_nil] at this ⊢
    omega
   ·simp
theorem qb15 {l:List Ins} (h:∀ x∈l,x.ps.length≤30) (p:Pd):(byI l p).2.1.length≤30:=by
 rcases qr6 l p with hq | ⟨j,hj,_,_,_,_,_,_,hq⟩
 ·rw [hq];simp
 ·rw [hq]
  have:=qwc (qc3 p.ty.args 0 []) (l.getD j I0).ps []
  have:=h _ (qcq hj)
  simp only [List.length_nil] at *
  omega
def sndL:List Ins->Bool
 | []=>true
 | x :: r=>decide (chkI x = 0) && sndL r
theorem q8o (l:List Ins):(l.any fun x=>!decide (chkI x = 0)) = !(sndL l):=by
 induction l with
 | nil=>rfl
 | cons x r ih=>rw [List.any_cons,sndL,ih,Bool.not_and]
theorem qr1 {e:Env} (hf:fewC e.cs):qk Tryz.prog 57 [encV e] (.bool (sndE e)):=by
 refine qd c0de (by simp) (by simp only [go_sem]) rfl fun hw=>?_
 have hl:=(qe3 hw.1.2.2.1).1
 have hC:=qf0 hf
 have hsd:sndE e = (decide ((chkC e.cs).2 = 0) && sndL e.is):=by rw [sndE,q8o,Bool.not_not]
 rw [hsd]
 unfold prA at hC
 generalize chkC e.cs = c at *
 obtain ⟨c1,c2⟩:=c
 dsimp only at hC ⊢
 repeat' (first | refine vs_ ?_ | ((first | refine vr_ ?_ | (refine cs_ ?_ ?_<;>intro hc) | refine cj_ ?_ | simp (disch:=omega) only [encs_getN,qb])<;>(try refine ev_ ?_)) | with_reducible exact ti_)
 refine qj (S:=Nat) (fun i=>i≤e.is.length∧sndL (e.is.drop i) = sndL e.is) (fun i=>(⟨[(1,.ptr 0 0),(8,.sl 4 (qbv e.is)),(9,.int .i64 e.is.length),(10,.int .i64 i)],[]⟩,[.blk (evc e)])) (fun i=>e.is.length - i) ?_ fun i hi=>?_
 ·refine qf 0 [0] ⟨Nat.zero_le _,rfl⟩ rfl (by simp) ?_ ?_ ?_<;>(try refine ev_ ?_)<;>(try with_reducible exact ti_)<;>(try simp (disch:=omega) only [qb,and_true,true_and])
 ·obtain ⟨hi,ha⟩:=hi
  by_cases hlt:i < e.is.length
  ·have hg:=qe1 hlt
   rw [q4q hlt,sndL] at ha
   have hltI:(i:Int) < (e.is.length:Int):=by omega
   have hK:=qll (e.is.getD i I0)
   generalize e.is.getD i I0 = x at *
   generalize chkI x = k at *
   by_cases hk:k = 0
   ·rw [decide_eq_true hk,Bool.true_and] at ha
    subst hk
    repeat' (first | refine vs_ ?_ | ((first | refine vr_ ?_ | fail)<;>(try simp (disch:=first | omega | (simp only [List.length_set,List.length_append,List.length_cons,List.length_nil];done) | (simp only [List.length_set,List.length_append,List.length_cons,List.length_nil];omega)) only [hg,hltI,qb,go_sem,↓reduceIte])) | ((first | simp (disch:=omega) only [hg] | (refine cs_ ?_ ?_<;>intro hc) | refine cj_ ?_ | simp (disch:=omega) only [encs_getN,qb] | refine qa hK fun _=>?_)<;>(try refine ev_ ?_)) | with_reducible exact ti_)
    all_goals try (exfalso;omega)
    refine qf (i + 1) [0] ⟨⟨by omega,ha⟩,by omega⟩ rfl (by simp) ?_ ?_ ?_<;>(try refine ev_ ?_)<;>(try with_reducible exact ti_)<;>(try simp (disch:=omega) only [qb,and_true,true_and])
   ·rw [decide_eq_false hk,Bool.false_and] at ha
    have hkd:decide (k = 0) = false:=decide_eq_false hk
    rw [← ha,Bool.and_false]
    repeat' (first | refine vs_ ?_ | ((first | refine vr_ ?_ | fail)<;>(try simp (disch:=first | omega | (simp only [List.length_set,List.length_append,List.length_cons,List.length_nil];done) | (simp only [List.length_set,List.length_append,List.length_cons,List.length_nil];omega)) only [hg,hltI,hkd,hk,qb,go_sem,↓reduceIte])) | ((first | simp (disch:=omega) only [hg] | (refine cs_ ?_ ?_<;>intro hc) | refine cj_ ?_ | simp (disch:=omega) only [encs_getN,qb] | refine qa hK fun _=>?_)<;>(try refine ev_ ?_)) | with_reducible exact ti_)
    all_goals try (exfalso;omega)
  ·rw [List.drop_of_length_le (by omega),sndL] at ha
   rw [← ha,Bool.and_true]
   have hltI:¬ (i:Int) < (e.is.length:Int):=by omega
   repeat' (first | refine vs_ ?_ | ((first | refine vr_ ?_ | fail)<;>(try simp only [hltI,go_sem,↓reduceIte])) | ((first | (refine cs_ ?_ ?_<;>intro hc) | refine cj_ ?_ | simp (disch:=omega) only [encs_getN,qb] | refine qa hC fun _=>?_)<;>(try refine ev_ ?_)) | with_reducible exact ti_)
section
variable {P:Program} {H:List Ent} {fr:Option Nat} {n m:Nat} {a:IC} {QV:VE->AF->List Ent->Prop} {af:AF} {e:Env} {w:WK}
theorem qbkt (i:Nat) (h:w.done = []) (hq:VI P fr n m a QV af (H.set i (.blk [.sl 3 e.ds,.sl 3 (qbs e.cs),.sl 4 (qbv e.is),.nils,.nils]))) (he:ent H i = wkE e w) (hm:m≤H.length):VI P fr n m a QV af H:=by
 refine qi3 i (by rw [he,wkE,qbn8 e h]) hm ?_
 simp only [Ent.ren,AV.rens,AV.ren,qh0,qc5,qc2,List.map_nil,List.append_nil]
 exact hq
theorem qbir (i:Nat) (h:w.done≠[]) (h2:w.out = []) (hq:VI P fr n m a QV af (H.set i (.blk [.sl 3 e.ds,.sl 3 (qbs e.cs),.sl 4 (qbv e.is),.nils,.row H.length w.done.length]) ++ [.app 4 (qg w.done)])) (he:ent H i = wkE e w) (hm:m≤H.length):VI P fr n m a QV af H:=by
 refine qi3 i (by rw [he,wkE,q99 e h h2]) hm ?_
 simp only [Ent.ren,AV.rens,AV.ren,qh0,qc5,qc2,qbp,List.map_cons,List.map_nil]
 exact hq
theorem qbi0 (i:Nat) (h:w.done≠[]) (h2:w.out≠[]) (hq:VI P fr n m a QV af (H.set i (.blk [.sl 3 e.ds,.sl 3 (qbs e.cs),.sl 4 (qbv e.is),.row (H.length + 1) w.out.length,.row H.length w.done.length]) ++ [.app 4 (qg w.done),.app 4 (qg w.out)])) (he:ent H i = wkE e w) (hm:m≤H.length):VI P fr n m a QV af H:=by
 refine qi3 i (by rw [he,wkE,q86 e h h2]) hm ?_
 simp only [Ent.ren,AV.rens,AV.ren,qh0,qc5,qc2,qbp,List.map_cons,List.map_nil]
 exact hq
end
def hdR (x:List Pd×Int):AV:=.tup [.sl 4 (qg x.1),.int .i64 x.2]
theorem qb01 (x:List Pd×Int):(hdR x).bd 0 = true:=by simp only [hdR,AV.bd,AV.bds,qbk];rfl
set_option maxHeartbeats 1000000 in
theorem qk4 {e:Env} {p:Pd} (hf:fewC e.cs) (hi:∀ x∈e.is,smlI x) (h30:∀ x∈e.is,x.ps.length≤30) (h1:szY p.ty≤20000) (h2:dpY p.ty≤6):qk Tryz.prog 33 [encV e,encP p] (hdR (qdq e p)):=by
 refine qd c0df (by simp) (by simp only [go_sem]) (qb01 _) fun hw=>?_
 have hL:=qkl h1 (show dpY p.ty≤300 by omega)
 have hS:=qr1 (e:=e) hf
 unfold qdq
 unfold k0df
 generalize hz3:IC.seq q1p _ = z3
 cases hl:qbn p with
 | false =>
   rw [hl] at hL
   rw [if_neg (by simp)]
   repeat' (first | refine vs_ ?_ | ((first | refine vr_ ?_ | refine qa hL fun _=>?_ | (refine cs_ ?_ ?_<;>intro hc) | refine cj_ ?_ | fail)<;>(try refine ev_ ?_)) | with_reducible exact ti_)
   all_goals first | rfl | trace_state
 | true =>
   rw [hl] at hL
   cases hs:sndE e with
   | false =>
     rw [hs] at hS
     rw [if_neg (by simp)]
     repeat' (first | refine vs_ ?_ | ((first | refine vr_ ?_ | refine qa hL fun _=>?_ | refine qa hS fun _=>?_ | (refine cs_ ?_ ?_<;>intro hc) | refine cj_ ?_ | fail)<;>(try refine ev_ ?_)) | with_reducible exact ti_)
     all_goals first | rfl | trace_state
   | true =>
     rw [hs] at hS
     rw [if_pos ⟨rfl,rfl⟩]
     have hW:smW e:=q1y hs fun x hx=>(hi x hx).1
     have hA:=qbee hi hW (qb15 h30) 7 p ⟨[],[]⟩ hl (by omega) ⟨Nat.le_refl _,fun _=>rfl⟩ (by decide)
     have hok:=(qpu (qb15 h30) 7 p ⟨[],[]⟩ ⟨Nat.le_refl _,fun _=>rfl⟩).1
     generalize addF e 7 p ⟨[],[]⟩ = r at *
     obtain ⟨c,w'⟩:=r
     dsimp only at hA hok ⊢
     have hb0:wkE e ⟨[],[]⟩ = bun [.blk [.sl 3 e.ds,.sl 3 (qbs e.cs),.sl 4 (qbv e.is),.nils,.nils]]:=by rw [wkE,qbn8 e rfl]
     generalize hz4:IC.seq (IC.seq q55 _) _ = z4 at hz3
     repeat' (first | refine vs_ ?_ | ((first | refine vr_ ?_ | refine qa hL fun _=>?_ | refine qa hS fun _=>?_ | (refine cs_ ?_ ?_<;>intro hc) | refine cj_ ?_ | fail)<;>(try refine ev_ ?_)) | with_reducible exact ti_)
     subst hz3
     repeat' (first | refine vs_ ?_ | ((first | refine vr_ ?_ | (refine cs_ ?_ ?_<;>intro hc) | refine cj_ ?_ | fail)<;>(try refine ev_ ?_)) | with_reducible exact ti_)
     refine q2t 2 (cs:=[.sl 3 e.ds,.sl 3 (qbs e.cs),.sl 4 (qbv e.is),.nils,.nils]) rfl (by simp only [AV.bds,AV.bd,q0h,qgx,qg0];rfl) ?_
     rw [← hb0]
     simp only [List.set_cons_zero,List.set_cons_succ]
     subst hz4
     generalize hz7:IC.seq q1u _ = z7
     repeat' (first | refine vs_ ?_ | ((first | refine vr_ ?_ | (refine cs_ ?_ ?_<;>intro hc) | refine cj_ ?_ | fail)<;>(try refine ev_ ?_)) | with_reducible exact ti_)
     refine qf2 2 hA (by simp only [AV.bds,qlx];rfl) rfl ?_
     simp only [qeq]
     (simp (disch:=first | omega | (simp only [List.length_set,List.length_append,List.length_cons,List.length_nil];done) | (simp only [List.length_set,List.length_append,List.length_cons,List.length_nil];omega)) only [qb,go_sem,↓reduceIte])
     by_cases hc:c = 0
     ·rw [if_pos hc]
      subst hc
      repeat' (first | refine vs_ ?_ | ((first | refine vr_ ?_ | fail)<;>(try simp only [Int.reduceEq,decide_true,go_sem,↓reduceIte])) | ((first | (refine cs_ ?_ ?_<;>intro hc) | refine cj_ ?_ | fail)<;>(try refine ev_ ?_)) | with_reducible exact ti_)
      all_goals try (exfalso;omega)
      subst hz7
      by_cases hd:w'.done = []
      ·have ho:=hok.2 hd
       refine qbkt 2 hd ?_ rfl (by simp)
       simp only [List.set_cons_zero,List.set_cons_succ]
       repeat' (first | refine vs_ ?_ | ((first | refine vr_ ?_ | (refine cs_ ?_ ?_<;>intro hc) | refine cj_ ?_ | fail)<;>(try refine ev_ ?_)) | with_reducible exact ti_)
       all_goals (rw [hdR,ho];rfl)
      ·by_cases ho:w'.out = []
       ·refine qbir 2 hd ho ?_ rfl (by simp)
        simp only [List.length_cons,List.length_nil,List.set_cons_zero,List.set_cons_succ,List.cons_append,List.nil_append]
        repeat' (first | refine vs_ ?_ | ((first | refine vr_ ?_ | (refine cs_ ?_ ?_<;>intro hc) | refine cj_ ?_ | fail)<;>(try refine ev_ ?_)) | with_reducible exact ti_)
        all_goals (rw [hdR,ho];rfl)
       ·refine qbi0 2 hd ho ?_ rfl (by simp)
        simp only [List.length_cons,List.length_nil,List.set_cons_zero,List.set_cons_succ,List.cons_append,List.nil_append]
        repeat' (first | refine vs_ ?_ | ((first | refine vr_ ?_ | fail)<;>(try simp only [qi,go_sem,↓reduceIte])) | ((first | (refine cs_ ?_ ?_<;>intro hc) | refine cj_ ?_ | fail)<;>(try refine ev_ ?_)) | with_reducible exact ti_)
        all_goals first | rfl | trace_state
     ·rw [if_neg hc]
      have hcd:decide (c = 0) = false:=decide_eq_false hc
      repeat' (first | refine vs_ ?_ | ((first | refine vr_ ?_ | fail)<;>(try simp only [hcd,hc,go_sem,↓reduceIte])) | ((first | (refine cs_ ?_ ?_<;>intro hc) | refine cj_ ?_ | fail)<;>(try refine ev_ ?_)) | with_reducible exact ti_)
      all_goals first | (exfalso;omega) | rfl | trace_state
set_option maxRecDepth 4000

theorem qbah:VCalls Tryz.prog 59 [] [.sl 4 []] fun H' o=>H' = []∧o = .val .nils:=by
 refine qd5 c0cv 0 (by simp) (by simp) ?_
 repeat' (first | refine vs_ ?_ | ((first | refine vr_ ?_ | (refine cs_ ?_ ?_<;>intro hc) | refine cj_ ?_ | simp (disch:=omega) only [encs_getN,qb])<;>(try refine ev_ ?_)) | with_reducible exact ti_)
 refine qj (S:=Unit) (fun _=>True) (fun _=>(⟨[(3,.nils),(6,.sl 4 []),(7,.int .i64 0),(8,.int .i64 0)],[]⟩,[])) (fun _=>0) ?_ fun _ _=>?_
 ·refine qf () [] trivial rfl (by simp) ?_ ?_ ?_<;>(try refine ev_ ?_)<;>(try with_reducible exact ti_)<;>(try simp (disch:=omega) only [qb,and_true,true_and])
 ·repeat' (first | refine vs_ ?_ | ((first | refine vr_ ?_ | fail)<;>(try simp only [Int.reduceLT,go_sem,↓reduceIte])) | ((first | (refine cs_ ?_ ?_<;>intro hc) | refine cj_ ?_ | simp (disch:=omega) only [encs_getN,qb])<;>(try refine ev_ ?_)) | with_reducible exact ti_)
  all_goals first | (exfalso;omega) | exact ⟨rfl,rfl⟩
theorem qn6:∀ (l acc:List Pd),acc≠[]->qbh acc l≠[]
 | [],acc,h=>h
 | x :: r, acc, h => by
   rw [qbh]
   split
   ·exact qn6 r acc h
   ·exact qn6 r _ (by simp)
theorem qk7 {l:List Pd} (h:l≠[]):qbh [] l≠[]:=by
 cases l with
 | nil=>exact absurd rfl h
 | cons x r =>
   rw [qbh,if_neg (by simp [hasP])]
   exact qn6 r _ (by simp)
theorem qbbs {l:List Pd} (hne:l≠[]) (hb:l.length≤1000000):VCalls Tryz.prog 59 [] [.sl 4 (qg l)] fun H' o=>H' = [.app 4 (qg (qbh [] l))]∧o = .val (.row 0 (qbh [] l).length):=by
 refine qd5 c0cv 1 (by simp) (by simp) ?_
 have hl:l.length≤maxLen:=by unfold maxLen;omega
 repeat' (first | refine vs_ ?_ | ((first | refine vr_ ?_ | (refine cs_ ?_ ?_<;>intro hc) | refine cj_ ?_ | simp (disch:=omega) only [encs_getN,qb])<;>(try refine ev_ ?_)) | with_reducible exact ti_)
 refine qj (S:=Nat×List Pd) (fun x=>x.1≤l.length∧qbh x.2 (l.drop x.1) = qbh [] l∧x.2.length≤x.1) (qdt l) (fun x=>l.length - x.1) ?_ fun x hx=>?_
 ·refine qf (0,[]) [] ⟨Nat.zero_le _,rfl,Nat.le_refl _⟩ rfl (by simp) ?_ ?_ ?_<;>simp only [qdt,qw,qo,qn]<;>(try refine ev_ ?_)<;>(try with_reducible exact ti_)<;>(try simp (disch:=omega) only [qb,and_true,true_and])
 ·obtain ⟨i,acc⟩:=x
  obtain ⟨hi,ha,hc⟩:=hx
  dsimp only at hi ha hc
  have hcap:qbb (acc.length + 1) 64 = True:=eq_true (capP (by omega))
  unfold qdt
  by_cases h0:acc = []
  ·subst h0
   simp only [qw,qo,qn]
   by_cases hlt:i < l.length
   ·repeat' (first | refine vs_ ?_ | ((first | refine vr_ ?_ | fail)<;>(try simp (disch:=first | omega | (simp only [List.length_set,List.length_append,List.length_cons,List.length_nil];done) | (simp only [List.length_set,List.length_append,List.length_cons,List.length_nil];omega)) only [q8,qb,q7,go_sem,↓reduceIte])) | ((first | simp (disch:=omega) only [hcap] | (refine cs_ ?_ ?_<;>intro hc) | refine cj_ ?_ | simp (disch:=omega) only [encs_getN,qb] | refine qa (qc4 [] _) fun _=>?_ | refine qc (qc4 [] _) ?_)<;>(try refine ev_ ?_)) | with_reducible exact ti_)
    ·rename_i hc
     refine qf (i + 1,[] ++ [l.getD i P0]) [1] ⟨⟨by dsimp only;omega,?_,by simp⟩,by dsimp only;omega⟩ rfl (by simp) ?_ ?_ ?_<;>simp only [qdt,List.nil_append,← qid,qda,qdc]<;>(try refine ev_ ?_)<;>(try with_reducible exact ti_)<;>(try simp (disch:=omega) only [qb,and_true,true_and])
     rw [← ha,qd8 (i:=i) _ (by omega),if_neg (by rw [hc];simp)];rfl
    ·rename_i hc
     exact absurd hc (by simp [hasP])
    ·omega
   ·exfalso
    rw [List.drop_of_length_le (by omega)] at ha
    exact qk7 hne ha.symm
  ·simp only [qu (qbq h0),qv (qbq h0)]
   repeat' (first | refine vs_ ?_ | ((first | refine vr_ ?_ | fail)<;>(try simp (disch:=first | omega | (simp only [List.length_set,List.length_append,List.length_cons,List.length_nil];done) | (simp only [List.length_set,List.length_append,List.length_cons,List.length_nil];omega)) only [q8,qb,go_sem,↓reduceIte])) | ((first | simp (disch:=omega) only [List.take_length] | simp (disch:=omega) only [hcap] | (refine cs_ ?_ ?_<;>intro hc) | refine cj_ ?_ | simp (disch:=omega) only [encs_getN,qb] | refine qa (qc4 acc _) fun _=>?_ | refine qc (qc4 acc _) ?_)<;>(try refine ev_ ?_)) | with_reducible exact ti_)
   ·rename_i hc
    refine qf (i + 1,acc ++ [l.getD i P0]) [2] ⟨⟨by dsimp only;omega,?_,by simp;omega⟩,by dsimp only;omega⟩ rfl (by simp) ?_ ?_ ?_<;>simp only [qdt,← qb8,qdj,qdh,qi,List.take_length]<;>(try refine ev_ ?_)<;>(try with_reducible exact ti_)<;>(try simp (disch:=omega) only [qb,and_true,true_and])
    ·rw [← ha,qd8 (i:=i) _ (by omega),if_neg (by rw [hc];simp)]
    all_goals (simp only [qb8];exact ⟨qbk _ _,by rw [qbp]⟩)
   ·rename_i hc
    refine qf (i + 1,acc) [0] ⟨⟨by dsimp only;omega,?_,by dsimp only;omega⟩,by dsimp only;omega⟩ rfl (by simp) ?_ ?_ ?_<;>simp only [qdt,qu (qbq h0),qv (qbq h0)]<;>(try refine ev_ ?_)<;>(try with_reducible exact ti_)<;>(try simp (disch:=omega) only [qb,and_true,true_and])
    rw [← ha,qd8 (i:=i) _ (by omega),if_pos hc]
   ·rw [List.drop_of_length_le (by omega)] at ha
    rw [← ha]
    exact ⟨rfl,rfl⟩
section
variable {l:List Pd} {H:List Ent} {Q:List Ent->VO->Prop}
theorem q0a (hq:Q H (.val .nils)):VApp Tryz.prog H (.fn 59 [] []) [.sl 4 []] Q:=by
 refine qcu ?_
 rw [List.nil_append,List.append_nil]
 refine qb7 [] qbah (by simp) trivial rfl rfl fun H1 o ho=>?_
 obtain ⟨rfl,rfl⟩:=ho
 have h1:qhy H [] ([]:List Ent) = H:=by simp [qhy,qbi]
 rw [h1]
 exact hq
theorem qmy (h0:l≠[]) (hl:l.length≤1000000) (hq:Q (H ++ [.app 4 (qg (qbh [] l))]) (.val (.row H.length (qbh [] l).length))):VApp Tryz.prog H (.fn 59 [] []) [.sl 4 (qg l)] Q:=by
 refine qcu ?_
 rw [List.nil_append,List.append_nil]
 refine qb7 [] (qbbs h0 hl) (by simp) trivial (by simp [AV.bds,AV.bd,qbk]) (by simp only [AV.rens,AV.ren,qbp]) fun H1 o ho=>?_
 obtain ⟨rfl,rfl⟩:=ho
 have h1:qhy H [] [Ent.app 4 (qg (qbh [] l))] = H ++ [.app 4 (qg (qbh [] l))]:=by
  show H ++ [(Ent.app 4 (qg (qbh [] l))).ren _] = H ++ [_]
  rw [Ent.ren,qbp]
 have h2:(VO.val (.row 0 (qbh [] l).length)).ren (sg' [] H.length) = VO.val (.row H.length (qbh [] l).length):=by
  show VO.val (.row (H.length + (0 - 0)) _) = _
  simp
 rw [h1,h2]
 exact hq
end
set_option maxRecDepth 4000

theorem qxq {rec:Pd->WK->Int×WK} (h:∀ q w,w.out.length≤4096->(rec q w).1 = 0->(rec q w).2.out.length≤4096):∀ (l:List Pd) (w:WK),w.out.length≤4096->(addL rec l w).1 = 0->(addL rec l w).2.out.length≤4096
 | [],w,hw,_=>hw
 | q :: r, w, hw, h0 => by
   rw [addL] at h0 ⊢
   split at h0
   ·rename_i h1
    rw [if_pos h1]
    exact qxq h r _ (h q w hw h1) h0
   ·rename_i h1
    exact absurd h0 h1
theorem qwl {e:Env}:∀ (f:Nat) (p:Pd) (w:WK),w.out.length≤4096->(addF e f p w).1 = 0->(addF e f p w).2.out.length≤4096
 | 0,p,w,hw,h0=>hw
 | f + 1, p, w, hw, h0 => by
   rw [addF] at h0 ⊢
   by_cases h1:hasP w.done p = true
   ·rw [if_pos h1];exact hw
   rw [if_neg h1] at h0 ⊢
   by_cases h2:qcf p = true
   ·rw [if_pos h2] at h0 ⊢
    dsimp only at h0 ⊢
    split at h0
    ·cases h0
    ·rw [List.length_append,List.length_cons,List.length_nil];omega
   rw [if_neg h2] at h0 ⊢
   by_cases h3:(byI e.is p).2.2 = true
   ·rw [if_pos h3] at h0 ⊢
    exact qxq (fun q w=>qwl f q w) _ _ hw h0
   ·rw [if_neg h3] at h0
    cases h0
theorem qfw (e:Env) (p:Pd):(qdq e p).1.length≤4096:=by
 unfold qdq
 split
 ·split
  ·rename_i h
   exact qwl 7 p ⟨[],[]⟩ (by simp) h
  ·simp
 ·simp
def h3A (r:List Pd×Int×Int):AV:=.tup [.sl 4 (qg r.1),.int .i64 r.2.1,.int .i64 r.2.2]
theorem qb1y (r:List Pd×Int×Int):(h3A r).bd 0 = true:=by simp only [h3A,AV.bd,AV.bds,qbk];rfl
def hsSt (e:Env) (l:List Pd) (x:Nat×List Pd):AF×List Ent:=(⟨[(2,.ptr 0 0),(7,accV 1 (qg x.2)),(12,.sl 4 (qg l)),(13,.int .i64 l.length),(14,.int .i64 x.1)],[]⟩,[.blk (evc e)] ++ accE 4 (qg x.2))
theorem q5s (a b:List Pd):qg a ++ qg b = qg (a ++ b):=by simp [qg]
set_option maxHeartbeats 1000000 in
theorem qjs {e:Env} {l:List Pd} (K:Nat) (hf:fewC e.cs) (hi:∀ x∈e.is,smlI x) (h30:∀ x∈e.is,x.ps.length≤30) (hp:∀ p∈l,szY p.ty≤20000∧dpY p.ty≤6) (hK:∀ p∈l,(qdq e p).1.length≤K) (hlK:l.length * K≤900000):qk Tryz.prog 34 [encV e,.sl 4 (qg l)] (h3A (hdsL e l 0 [])):=by
 refine qd c0dd (by simp) (by simp only [go_sem]) (qb1y _) fun hw=>?_
 have hl:=(qca hw.2.1).1
 repeat' (first | refine vs_ ?_ | ((first | refine vr_ ?_ | (refine cs_ ?_ ?_<;>intro hc) | refine cj_ ?_ | simp (disch:=omega) only [encs_getN,qb])<;>(try refine ev_ ?_)) | with_reducible exact ti_)
 refine qj (S:=Nat×List Pd) (fun x=>x.1≤l.length∧hdsL e (l.drop x.1) x.1 x.2 = hdsL e l 0 []∧x.2.length≤x.1 * K) (hsSt e l) (fun x=>l.length - x.1) ?_ fun x hx=>?_
 ·refine qf (0,[]) [0] ⟨Nat.zero_le _,rfl,by simp⟩ rfl (by simp) ?_ ?_ ?_<;>simp only [hsSt,qw,qo,qn,List.append_nil]<;>(try refine ev_ ?_)<;>(try with_reducible exact ti_)<;>(try simp (disch:=omega) only [qb,and_true,true_and])
 ·obtain ⟨j,acc⟩:=x
  obtain ⟨x1,x2,x3⟩:=hx
  dsimp only at x1 x2 x3
  unfold hsSt
  dsimp only
  by_cases hlt:j < l.length
  ·have hg:=q8 hlt
   obtain ⟨p1,p2⟩:=hp _ (qdf hlt)
   have hH:=qk4 hf hi h30 p1 p2
   have hKj:=hK _ (qdf hlt)
   rw [V.dropP hlt,hdsL] at x2
   have hltI:(j:Int) < (l.length:Int):=by omega
   have hjK:(j + 1) * K≤l.length * K:=Nat.mul_le_mul_right _ hlt
   rw [Nat.add_mul,Nat.one_mul] at hjK
   generalize l.getD j P0 = q at *
   generalize qdq e q = r at *
   obtain ⟨m,c⟩:=r
   unfold hdR at hH
   dsimp only at hH x2 hKj
   have hol:=qev (acc ++ m) []
   rw [List.length_append,List.length_nil] at hol
   have hsm:qbh [] (acc ++ m) = qbh [] (acc ++ m):=rfl
   have hcap1:qbb m.length 64 = True:=eq_true (capP (by omega))
   have hcap2:qbb (acc.length + m.length) 64 = True:=eq_true (capP (by omega))
   have hinv:(qbh [] (acc ++ m)).length≤(j + 1) * K:=by rw [Nat.add_mul,Nat.one_mul];omega
   by_cases hc0:c = 0
   ·rw [if_pos hc0] at x2
    subst hc0
    by_cases ha:acc = []
    ·subst ha
     simp only [qw,qo,qn,List.append_nil]
     by_cases hm:m = []
     ·subst hm
      repeat' (first | refine vs_ ?_ | ((first | refine vr_ ?_ | fail)<;>(try simp (disch:=first | omega | (simp only [List.length_set,List.length_append,List.length_cons,List.length_nil];done) | (simp only [List.length_set,List.length_append,List.length_cons,List.length_nil];omega)) only [hg,hltI,qb,qw,List.length_nil,go_sem,↓reduceIte])) | ((first | simp (disch:=omega) only [hg] | (refine cs_ ?_ ?_<;>intro hc) | refine cj_ ?_ | simp (disch:=omega) only [encs_getN,qb] | refine qa hH fun _=>?_)<;>(try refine ev_ ?_)) | with_reducible exact ti_)
      all_goals try (exfalso;omega)
      refine q0a ?_
      simp only [qeq]
      (simp (disch:=first | omega | (simp only [List.length_set,List.length_append,List.length_cons,List.length_nil];done) | (simp only [List.length_set,List.length_append,List.length_cons,List.length_nil];omega)) only [qb,go_sem,↓reduceIte])
      repeat' (first | refine vs_ ?_ | ((first | refine vr_ ?_ | fail)<;>(try simp (disch:=first | omega | (simp only [List.length_set,List.length_append,List.length_cons,List.length_nil];done) | (simp only [List.length_set,List.length_append,List.length_cons,List.length_nil];omega)) only [qb,go_sem,↓reduceIte])) | ((first | (refine cs_ ?_ ?_<;>intro hc) | refine cj_ ?_ | simp (disch:=omega) only [encs_getN,qb])<;>(try refine ev_ ?_)) | with_reducible exact ti_)
      refine qf (j + 1,qbh [] ([] ++ [])) [0] ⟨⟨by dsimp only;omega,x2,hinv⟩,by dsimp only;omega⟩ rfl (by simp) ?_ ?_ ?_
      all_goals (simp only [hsSt,List.nil_append,qbh,qw,qo,qn,List.append_nil]<;>(try refine ev_ ?_)<;>(try with_reducible exact ti_)<;>(try simp (disch:=omega) only [qb,and_true,true_and]))
      all_goals trace_state
     ·have hm0:¬ m.length = 0:=fun h=>hm (List.length_eq_zero_iff.1 h)
      have hone:qg (qbh [] m)≠[]:=qbq (qk7 hm)
      repeat' (first | refine vs_ ?_ | ((first | refine vr_ ?_ | fail)<;>(try simp (disch:=first | omega | (simp only [List.length_set,List.length_append,List.length_cons,List.length_nil];done) | (simp only [List.length_set,List.length_append,List.length_cons,List.length_nil];omega)) only [hg,hltI,qb,hm0,qi,go_sem,↓reduceIte])) | ((first | simp (disch:=omega) only [hg] | simp (disch:=omega) only [hcap1] | (refine cs_ ?_ ?_<;>intro hc) | refine cj_ ?_ | simp (disch:=omega) only [encs_getN,qb] | refine qa hH fun _=>?_)<;>(try refine ev_ ?_)) | with_reducible exact ti_)
      all_goals try (exfalso;omega)
      refine qmy hm (by omega) ?_
      simp only [qeq]
      (simp (disch:=first | omega | (simp only [List.length_set,List.length_append,List.length_cons,List.length_nil];done) | (simp only [List.length_set,List.length_append,List.length_cons,List.length_nil];omega)) only [qb,go_sem,↓reduceIte])
      repeat' (first | refine vs_ ?_ | ((first | refine vr_ ?_ | fail)<;>(try simp (disch:=first | omega | (simp only [List.length_set,List.length_append,List.length_cons,List.length_nil];done) | (simp only [List.length_set,List.length_append,List.length_cons,List.length_nil];omega)) only [qb,go_sem,↓reduceIte])) | ((first | (refine cs_ ?_ ?_<;>intro hc) | refine cj_ ?_ | simp (disch:=omega) only [encs_getN,qb])<;>(try refine ev_ ?_)) | with_reducible exact ti_)
      refine qf (j + 1,qbh [] ([] ++ m)) [0,3] ⟨⟨by dsimp only;omega,x2,hinv⟩,by dsimp only;omega⟩ rfl (by simp) ?_ ?_ ?_
      all_goals (simp only [hsSt,qu hone,qv hone,qi,List.nil_append,List.cons_append]<;>(try refine ev_ ?_)<;>(try with_reducible exact ti_)<;>(try simp (disch:=omega) only [qb,and_true,true_and]))
      all_goals first | (exact ⟨qbk _ _,by rw [qbp]⟩) | trace_state
    ·have hne:=qbq ha
     have hone:qg (qbh [] (acc ++ m))≠[]:=qbq (qk7 (by simp [ha]))
     simp only [qu hne,qv hne,qi,List.cons_append,List.nil_append]
     repeat' (first | refine vs_ ?_ | ((first | refine vr_ ?_ | fail)<;>(try simp (disch:=first | omega | (simp only [List.length_set,List.length_append,List.length_cons,List.length_nil];done) | (simp only [List.length_set,List.length_append,List.length_cons,List.length_nil];omega)) only [hg,hltI,qb,qi,q5s,go_sem,↓reduceIte])) | ((first | simp (disch:=omega) only [hg] | simp (disch:=omega) only [hcap2] | (refine cs_ ?_ ?_<;>intro hc) | refine cj_ ?_ | simp (disch:=omega) only [encs_getN,qb] | refine qa hH fun _=>?_)<;>(try refine ev_ ?_)) | with_reducible exact ti_)
     all_goals try (exfalso;omega)
     refine qmy (l:=acc ++ m) (by simp [ha]) (by rw [List.length_append];omega) ?_
     simp only [qeq]
     (simp (disch:=first | omega | (simp only [List.length_set,List.length_append,List.length_cons,List.length_nil];done) | (simp only [List.length_set,List.length_append,List.length_cons,List.length_nil];omega)) only [qb,go_sem,↓reduceIte])
     repeat' (first | refine vs_ ?_ | ((first | refine vr_ ?_ | fail)<;>(try simp (disch:=first | omega | (simp only [List.length_set,List.length_append,List.length_cons,List.length_nil];done) | (simp only [List.length_set,List.length_append,List.length_cons,List.length_nil];omega)) only [qb,go_sem,↓reduceIte])) | ((first | (refine cs_ ?_ ?_<;>intro hc) | refine cj_ ?_ | simp (disch:=omega) only [encs_getN,qb])<;>(try refine ev_ ?_)) | with_reducible exact ti_)
     refine qf (j + 1,qbh [] (acc ++ m)) [0,4] ⟨⟨by dsimp only;omega,x2,hinv⟩,by dsimp only;omega⟩ rfl (by simp) ?_ ?_ ?_
     all_goals (simp only [hsSt,qu hone,qv hone,qi,List.nil_append,List.cons_append]<;>(try refine ev_ ?_)<;>(try with_reducible exact ti_)<;>(try simp (disch:=omega) only [qb,and_true,true_and]))
     all_goals first | (exact ⟨qbk _ _,by rw [qbp]⟩) | trace_state
   ·rw [if_neg hc0] at x2
    have hcd:decide (c = 0) = false:=decide_eq_false hc0
    rw [← x2]
    by_cases ha:acc = []
    ·subst ha
     simp only [qw,qo,qn,List.append_nil]
     repeat' (first | refine vs_ ?_ | ((first | refine vr_ ?_ | fail)<;>(try simp (disch:=first | omega | (simp only [List.length_set,List.length_append,List.length_cons,List.length_nil];done) | (simp only [List.length_set,List.length_append,List.length_cons,List.length_nil];omega)) only [hg,hltI,hcd,qb,go_sem,↓reduceIte])) | ((first | simp (disch:=omega) only [hg] | (refine cs_ ?_ ?_<;>intro hc) | refine cj_ ?_ | simp (disch:=omega) only [encs_getN,qb] | refine qa hH fun _=>?_)<;>(try refine ev_ ?_)) | with_reducible exact ti_)
     all_goals first | (exfalso;omega) | rfl | trace_state
    ·have hne:=qbq ha
     simp only [qu hne,qv hne,qi,List.cons_append,List.nil_append]
     repeat' (first | refine vs_ ?_ | ((first | refine vr_ ?_ | fail)<;>(try simp (disch:=first | omega | (simp only [List.length_set,List.length_append,List.length_cons,List.length_nil];done) | (simp only [List.length_set,List.length_append,List.length_cons,List.length_nil];omega)) only [hg,hltI,hcd,qb,qi,go_sem,↓reduceIte])) | ((first | simp (disch:=omega) only [hg] | (refine cs_ ?_ ?_<;>intro hc) | refine cj_ ?_ | simp (disch:=omega) only [encs_getN,qb] | refine qa hH fun _=>?_)<;>(try refine ev_ ?_)) | with_reducible exact ti_)
     all_goals first | (exfalso;omega) | rfl | trace_state
  ·rw [List.drop_of_length_le (by omega),hdsL] at x2
   rw [← x2]
   have hltI:¬ (j:Int) < (l.length:Int):=by omega
   by_cases ha:acc = []
   ·subst ha
    simp only [qw,qo,qn,List.append_nil]
    repeat' (first | refine vs_ ?_ | ((first | refine vr_ ?_ | fail)<;>(try simp only [hltI,go_sem,↓reduceIte])) | ((first | (refine cs_ ?_ ?_<;>intro hc) | refine cj_ ?_ | simp (disch:=omega) only [encs_getN,qb])<;>(try refine ev_ ?_)) | with_reducible exact ti_)
    all_goals first | rfl | trace_state
   ·have hne:=qbq ha
    simp only [qu hne,qv hne,qi,List.cons_append,List.nil_append]
    repeat' (first | refine vs_ ?_ | ((first | refine vr_ ?_ | fail)<;>(try simp only [hltI,qi,go_sem,↓reduceIte])) | ((first | (refine cs_ ?_ ?_<;>intro hc) | refine cj_ ?_ | simp (disch:=omega) only [encs_getN,qb])<;>(try refine ev_ ?_)) | with_reducible exact ti_)
    all_goals first | rfl | trace_state
set_option maxRecDepth 4000

def cvQ (cs:List Cls) (p q:Pd):Bool:=!decide (q.cls = p.cls) && (qe8 q.ty p.ty && (pthC cs q.cls p.cls).2)
theorem qt8 (e:Env) (l:List Pd) (p:Pd):covR e l p = l.any (cvQ e.cs p):=rfl
def mkM (cs:List Cls) (p:Pd) (l:List Pd) (i:Nat):List Bool:=(l.take i).map (cvQ cs p) ++ List.replicate (8 - i) false
theorem qoa {cs:List Cls} {p:Pd} {l:List Pd} {i:Nat} (h:i≤l.length) (h8:i≤8):(mkM cs p l i).length = 8:=by
 rw [mkM,List.length_append,List.length_map,List.length_take,List.length_replicate];omega
theorem q02 {cs:List Cls} {p:Pd} {l:List Pd} {i:Nat} (h:i < l.length) (h8:i < 8):(mkM cs p l i).set i (cvQ cs p (l.getD i P0)) = mkM cs p l (i + 1):=by
 have h1:((l.take i).map (cvQ cs p)).length = i:=by rw [List.length_map,List.length_take];omega
 have h2:8 - i = (8 - (i + 1)) + 1:=by omega
 rw [mkM,mkM,List.set_append_right _ _ (by omega),h1,Nat.sub_self,h2,List.replicate_succ,List.set_cons_zero,List.take_add_one,List.getElem?_eq_getElem h,List.getD_eq_getElem?_getD,List.getElem?_eq_getElem h,List.map_append,List.append_assoc]
 rfl
theorem qbnz {cs:List Cls} {p:Pd} {l:List Pd} {i:Nat} (h:i < l.length) (h8:i < 8):(mkM cs p l i).getD i true = false:=by
 have h1:((l.take i).map (cvQ cs p)).length = i:=by rw [List.length_map,List.length_take];omega
 rw [mkM,List.getD_eq_getElem?_getD,List.getElem?_append_right (by omega),h1,Nat.sub_self,List.getElem?_replicate,if_pos (by omega)]
 rfl
theorem q8n {cs:List Cls} {p:Pd} {l:List Pd} {i:Nat} (h:i < l.length) (h8:i < 8) (hc:cvQ cs p (l.getD i P0) = false):mkM cs p l (i + 1) = mkM cs p l i:=by
 have h1:=q02 (cs:=cs) (p:=p) h h8
 have h2:=qbnz (cs:=cs) (p:=p) h h8
 rw [hc] at h1
 rw [← h1]
 have hl:i < (mkM cs p l i).length:=by rw [qoa (by omega) (by omega)];omega
 rw [List.getD_eq_getElem?_getD,List.getElem?_eq_getElem hl] at h2
 have h2:(mkM cs p l i)[i] = false:=h2
 apply List.ext_getElem
 ·simp
 ·intro j j1 j2
  rw [List.getElem_set]
  split
  ·rename_i h;subst h;exact h2.symm
  ·rfl
theorem qbob {cs:List Cls} {p:Pd} {l:List Pd}:(mkM cs p l l.length).any id = l.any (cvQ cs p):=by
 rw [mkM,List.take_length,List.any_append,List.any_map]
 have:(List.replicate (8 - l.length) false).any id = false:=by
  rw [List.any_eq_false];intro x hx;rw [List.eq_of_mem_replicate hx];simp
 rw [this,Bool.or_false]
 rfl
set_option maxHeartbeats 1000000 in
theorem qsc {e:Env} {l:List Pd} {p:Pd} (hf:fewC e.cs) (h8:l.length≤8):qk Tryz.prog 93 [encV e,.sl 4 (qg l),encP p] (.agg (bl (mkM e.cs p l l.length))):=by
 refine qd c0db (by simp) (by simp only [go_sem]) (by simp only [AV.bd,qub]) fun hw=>?_
 have hl:=(qca hw.2.1).1
 repeat' (first | refine vs_ ?_ | ((first | refine vr_ ?_ | (refine cs_ ?_ ?_<;>intro hc) | refine cj_ ?_ | simp (disch:=omega) only [encs_getN,qb])<;>(try refine ev_ ?_)) | with_reducible exact ti_)
 refine qj (S:=Nat) (fun i=>i≤l.length) (fun i=>(⟨[(3,.ptr 0 0),(5,.ptr 1 0),(6,.ptr 2 0),(7,.ptr 3 0),(10,.sl 4 (qg l)),(11,.int .i64 l.length),(12,.int .i64 i)],[]⟩,[.blk (evc e),.blk (pdc p),.blk (List.replicate 8 (.bool false)),.blk (bl (mkM e.cs p l i))])) (fun i=>l.length - i) ?_ fun i hi=>?_
 ·refine qf 0 [0,1,2,3] (Nat.zero_le _) rfl (by simp) ?_ ?_ ?_<;>(try refine ev_ ?_)<;>(try with_reducible exact ti_)<;>(try simp (disch:=omega) only [qb,and_true,true_and])
  all_goals exact ⟨⟨rfl,rfl⟩,rfl⟩
 ·by_cases hlt:i < l.length
  ·have hg:=q8 hlt
   have hS:=qjc (l.getD i P0).ty p.ty
   have hP:=qmc hf (l.getD i P0).cls p.cls
   have hset:=q02 (cs:=e.cs) (p:=p) hlt (by omega)
   have hsame:=q8n (cs:=e.cs) (p:=p) hlt (by omega)
   have hml:=qoa (cs:=e.cs) (p:=p) (l:=l) (i:=i) (by omega) (by omega)
   have hltI:(i:Int) < (l.length:Int):=by omega
   have hi8:(i:Int) < 8:=by omega
   have hi0:(0:Int)≤(i:Int):=by omega
   have hin:(i:Int).toNat = i:=by simp
   generalize l.getD i P0 = q at *
   unfold cvQ at hset hsame
   generalize hM:mkM e.cs p l i = M at *
   generalize hM2:mkM e.cs p l (i + 1) = M2 at *
   generalize pthC e.cs q.cls p.cls = pc at *
   obtain ⟨ns,ok⟩:=pc
   dsimp only at hP hset hsame
   by_cases hc:q.cls = p.cls
   ·have hm2:M2 = M:=hsame (by rw [decide_eq_true hc];rfl)
    repeat' (first | refine vs_ ?_ | ((first | refine vr_ ?_ | fail)<;>(try simp (disch:=first | omega | (simp only [List.length_set,List.length_append,List.length_cons,List.length_nil];done) | (simp only [List.length_set,List.length_append,List.length_cons,List.length_nil];omega)) only [hg,hltI,hc,decide_true,qb,go_sem,↓reduceIte])) | ((first | simp (disch:=omega) only [hg] | (refine cs_ ?_ ?_<;>intro hc) | refine cj_ ?_ | simp (disch:=omega) only [encs_getN,qb] | refine qa hS fun _=>?_)<;>(try refine ev_ ?_)) | with_reducible exact ti_)
    refine qf (i + 1) [0,1,2,3] ⟨by omega,by omega⟩ rfl (by simp) ?_ ?_ ?_<;>simp only [hM2,hm2]<;>(try refine ev_ ?_)<;>(try with_reducible exact ti_)<;>(try simp (disch:=omega) only [qb,and_true,true_and])
    all_goals exact ⟨rfl,rfl⟩
   ·have hcd:decide (q.cls = p.cls) = false:=decide_eq_false hc
    generalize qe8 q.ty p.ty = sm at *
    cases sm with
    | false =>
      have hm2:M2 = M:=hsame (by simp)
      repeat' (first | refine vs_ ?_ | ((first | refine vr_ ?_ | fail)<;>(try simp (disch:=first | omega | (simp only [List.length_set,List.length_append,List.length_cons,List.length_nil];done) | (simp only [List.length_set,List.length_append,List.length_cons,List.length_nil];omega)) only [hg,hltI,hc,hcd,qb,go_sem,↓reduceIte])) | ((first | simp (disch:=omega) only [hg] | (refine cs_ ?_ ?_<;>intro hc) | refine cj_ ?_ | simp (disch:=omega) only [encs_getN,qb] | refine qa hS fun _=>?_)<;>(try refine ev_ ?_)) | with_reducible exact ti_)
      refine qf (i + 1) [0,1,2,3] ⟨by omega,by omega⟩ rfl (by simp) ?_ ?_ ?_<;>simp only [hM2,hm2]<;>(try refine ev_ ?_)<;>(try with_reducible exact ti_)<;>(try simp (disch:=omega) only [qb,and_true,true_and])
      all_goals exact ⟨rfl,rfl⟩
    | true =>
      rw [hcd,Bool.not_false,Bool.true_and,Bool.true_and] at hset
      have hbs:=qvq M i ok
      rw [hset] at hbs
      have hml2:i < M.length:=by omega
      repeat' (first | refine vs_ ?_ | ((first | refine vr_ ?_ | fail)<;>(try simp (disch:=first | omega | (simp only [List.length_set,List.length_append,List.length_cons,List.length_nil];done) | (simp only [List.length_set,List.length_append,List.length_cons,List.length_nil];omega)) only [hg,hltI,hc,hcd,qb,hi8,hi0,hin,Nat.zero_add,Nat.mul_one,qer,hml,hml2,hbs,go_sem,↓reduceIte])) | ((first | simp (disch:=omega) only [hg] | (refine cs_ ?_ ?_<;>intro hc) | refine cj_ ?_ | simp (disch:=omega) only [encs_getN,qb] | refine qa hS fun _=>?_ | refine qa hP fun _=>?_)<;>(try refine ev_ ?_)) | with_reducible exact ti_)
      refine qf (i + 1) [0,1,2,3] ⟨by omega,by omega⟩ rfl (by simp) ?_ ?_ ?_<;>simp only [hM2]<;>(try refine ev_ ?_)<;>(try with_reducible exact ti_)<;>(try simp (disch:=omega) only [qb,and_true,true_and])
      all_goals first | exact ⟨rfl,rfl⟩ | exact ⟨⟨rfl,rfl⟩,rfl⟩ | trace_state
  ·have hie:i = l.length:=by omega
   subst hie
   have hml:=qoa (cs:=e.cs) (p:=p) (l:=l) (i:=l.length) (by omega) (by omega)
   generalize mkM e.cs p l l.length = M at *
   have hltI:¬ ((l.length:Nat):Int) < (l.length:Int):=by omega
   have hbt:List.take 8 (bl M) = bl M:=List.take_of_length_le (by rw [qer];omega)
   have hdr:List.drop 8 (List.replicate 8 (AV.bool false)) = []:=rfl
   have hcj:M.length = 8∧8≤(List.replicate 8 (AV.bool false)).length∧(bl M).all AV.leaf = true:=⟨hml,by simp,by rw [bl,List.all_map,List.all_eq_true];exact fun _ _=>rfl⟩
   repeat' (first | refine vs_ ?_ | ((first | refine vr_ ?_ | fail)<;>(try simp only [hltI,hbt,hdr,List.append_nil,go_sem,↓reduceIte])) | ((first | (refine cs_ ?_ ?_<;>intro hc) | refine cj_ ?_ | simp (disch:=omega) only [encs_getN,qb])<;>(try refine ev_ ?_)) | with_reducible exact ti_)
   all_goals omega
theorem qbdp:∀ (M:List Bool),qet (List.replicate M.length Sk.bool) (bl M) = true
 | []=>rfl
 | b :: M => by
   show (fitc .bool (.bool b) && qet (List.replicate M.length Sk.bool) (bl M)) = true
   rw [qbdp M];rfl
theorem qb5a:∀ (M:List Bool),eqcs (bl M) (bl (List.replicate M.length false)) = !(M.any id)
 | []=>rfl
 | b :: M => by
   show (eqc (.bool b) (.bool false) && eqcs (bl M) (bl (List.replicate M.length false))) = _
   rw [qb5a M,List.any_cons,Bool.not_or]
   cases b<;>rfl
theorem qmr {e:Env} {l:List Pd} {p:Pd} (hf:fewC e.cs):qk Tryz.prog 60 [encV e,.sl 4 (qg l),encP p] (.bool (covR e l p)):=by
 refine qd c0dc (by simp) (by simp only [go_sem]) rfl fun hw=>?_
 have hl:=(qca hw.2.1).1
 rw [qt8]
 repeat' (first | refine vs_ ?_ | ((first | refine vr_ ?_ | (refine cs_ ?_ ?_<;>intro hc) | refine cj_ ?_ | fail)<;>(try refine ev_ ?_)) | with_reducible exact ti_)
 refine qj (S:=List Pd) (fun r=>r.length≤l.length∧r.any (cvQ e.cs p) = l.any (cvQ e.cs p)) (fun r=>(⟨[(1,.sl 4 (qg r)),(3,.ptr 0 0),(5,.ptr 1 0)],[]⟩,[.blk (evc e),.blk (pdc p)])) (fun r=>r.length) ?_ fun r hr=>?_
 ·refine qf l [0,1] ⟨Nat.le_refl _,rfl⟩ rfl (by simp) ?_ ?_ ?_<;>(try refine ev_ ?_)<;>(try with_reducible exact ti_)<;>(try simp (disch:=omega) only [qb,and_true,true_and])
 ·obtain ⟨r1,r2⟩:=hr
  by_cases h0:r = []
  ·subst h0
   rw [← r2]
   have h00:¬ ((0:Nat):Int) > 0:=by omega
   repeat' (first | refine vs_ ?_ | ((first | refine vr_ ?_ | fail)<;>(try simp only [qw,List.length_nil,go_sem,↓reduceIte])) | ((first | (refine cs_ ?_ ?_<;>intro hc) | refine cj_ ?_ | fail)<;>(try refine ev_ ?_)) | with_reducible exact ti_)
   all_goals first | (exfalso;omega) | rfl | trace_state
  ·have hpos:0 < r.length:=List.length_pos_iff.2 h0
   have hposI:(0:Int) < (r.length:Int):=by omega
   obtain ⟨k,hk⟩:∃ k,k = min r.length 8:=⟨_,rfl⟩
   have hkI:(if (8:Int) < (r.length:Int) then (8:Int) else (r.length:Int)) = (k:Int):=by split<;>omega
   have hk8:(r.take k).length = k:=by rw [List.length_take];omega
   have hkr:k≤r.length:=by omega
   have hkt:(k:Int).toNat = k:=by simp
   have hA:=qsc (e:=e) (l:=r.take k) (p:=p) hf (by omega)
   have hfit:=qbdp (mkM e.cs p (r.take k) (r.take k).length)
   have heq:=qb5a (mkM e.cs p (r.take k) (r.take k).length)
   rw [qbob] at heq
   rw [qoa (Nat.le_refl _) (by omega)] at hfit heq
   have hsp:r.any (cvQ e.cs p) = ((r.take k).any (cvQ e.cs p) || (r.drop k).any (cvQ e.cs p)):=by rw [← List.any_append,List.take_append_drop]
   generalize mkM e.cs p (r.take k) (r.take k).length = M at *
   generalize (r.take k).any (cvQ e.cs p) = b at *
   have hfit:qet [.bool,.bool,.bool,.bool,.bool,.bool,.bool,.bool] (bl M) = true:=hfit
   have heq:eqcs (bl M) [.bool false,.bool false,.bool false,.bool false,.bool false,.bool false,.bool false,.bool false] = !b:=heq
   have hff:qet [.bool,.bool,.bool,.bool,.bool,.bool,.bool,.bool] [.bool false,.bool false,.bool false,.bool false,.bool false,.bool false,.bool false,.bool false] = true:=rfl
   cases b with
   | true =>
     rw [Bool.true_or] at hsp
     rw [← r2,hsp]
     repeat' (first | refine vs_ ?_ | ((first | refine vr_ ?_ | fail)<;>(try simp (disch:=first | omega | (simp only [List.length_set,List.length_append,List.length_cons,List.length_nil];done) | (simp only [List.length_set,List.length_append,List.length_cons,List.length_nil];omega)) only [hposI,hkI,hkt,hkr,qi,hfit,heq,hff,Bool.not_true,Bool.not_false,qb,go_sem,↓reduceIte])) | ((first | (refine cs_ ?_ ?_<;>intro hc) | refine cj_ ?_ | fail | refine qa hA fun _=>?_ | refine qc hA ?_)<;>(try refine ev_ ?_)) | with_reducible exact ti_)
   | false =>
     rw [Bool.false_or] at hsp
     repeat' (first | refine vs_ ?_ | ((first | refine vr_ ?_ | fail)<;>(try simp (disch:=first | omega | (simp only [List.length_set,List.length_append,List.length_cons,List.length_nil];done) | (simp only [List.length_set,List.length_append,List.length_cons,List.length_nil];omega)) only [hposI,hkI,hkt,hkr,qi,hfit,heq,hff,Bool.not_true,Bool.not_false,qb,go_sem,↓reduceIte])) | ((first | (refine cs_ ?_ ?_<;>intro hc) | refine cj_ ?_ | fail | refine qa hA fun _=>?_ | refine qc hA ?_)<;>(try refine ev_ ?_)) | with_reducible exact ti_)
     refine qf (r.drop k) [0,1] ⟨⟨by rw [List.length_drop];omega,by rw [← hsp,r2]⟩,by rw [List.length_drop];omega⟩ rfl (by simp) ?_ ?_ ?_<;>(try refine ev_ ?_)<;>(try with_reducible exact ti_)<;>(try simp (disch:=omega) only [qb,and_true,true_and])
set_option maxRecDepth 4000

def fltS (e:Env) (o:List Pd) (i:Nat):List Pd:=(o.take i).filter fun p=>!covR e o p
theorem q6g (e:Env) {o:List Pd} {i:Nat} (h:i < o.length):fltS e o (i + 1) = fltS e o i ++ if covR e o (o.getD i P0) = true then [] else [o.getD i P0]:=by
 rw [fltS,List.take_add_one,List.getElem?_eq_getElem h,List.filter_append,List.getD_eq_getElem?_getD,List.getElem?_eq_getElem h]
 show _ ++ List.filter _ [o[i]] = _ ++ if covR e o o[i] = true then [] else [o[i]]
 cases hc:covR e o o[i] with
 | true=>simp [fltS,hc]
 | false=>simp [fltS,hc]
theorem q6o (e:Env) (o:List Pd) (i:Nat):(fltS e o i).length≤i:=by
 have h1:=List.length_filter_le (fun p=>!covR e o p) (o.take i)
 rw [List.length_take] at h1
 show ((o.take i).filter _).length≤i
 omega
def smSt (e:Env) (o:List Pd) (i:Nat):AF×List Ent:=(⟨[(1,.sl 4 (qg o)),(2,.ptr 0 0),(5,accV 1 (qg (fltS e o i))),(10,.sl 4 (qg o)),(11,.int .i64 o.length),(12,.int .i64 i)],[]⟩,[.blk (evc e)] ++ accE 4 (qg (fltS e o i)))
set_option maxHeartbeats 1000000 in
theorem qij {e:Env} {l:List Pd} (hf:fewC e.cs) (hlen:l.length≤900000):qk Tryz.prog 35 [encV e,.sl 4 (qg l)] (.sl 4 (qg (simR e l))):=by
 refine qd c0cz (by simp) (by simp only [go_sem]) (by simp only [AV.bd,qbk]) fun hw=>?_
 have hO:=qy9 l (by omega)
 have hol:=qev l []
 rw [List.length_nil] at hol
 unfold simR
 generalize qbh [] l = o at *
 have hol2:o.length≤maxLen:=by unfold maxLen;omega
 repeat' (first | refine vs_ ?_ | ((first | refine vr_ ?_ | refine qa hO fun _=>?_ | (refine cs_ ?_ ?_<;>intro hc) | refine cj_ ?_ | simp (disch:=omega) only [encs_getN,qb])<;>(try refine ev_ ?_)) | with_reducible exact ti_)
 refine qj (S:=Nat) (fun i=>i≤o.length) (smSt e o) (fun i=>o.length - i) ?_ fun i hi=>?_
 ·have h0:fltS e o 0 = []:=rfl
  refine qf 0 [0] (Nat.zero_le _) rfl (by simp) ?_ ?_ ?_<;>simp only [smSt,h0,qw,qo,qn,List.append_nil]<;>(try refine ev_ ?_)<;>(try with_reducible exact ti_)<;>(try simp (disch:=omega) only [qb,and_true,true_and])
 ·have hfl:=q6o e o i
  have hcap1:qbb 1 64 = True:=eq_true (capP (by omega))
  have hcap2:qbb ((fltS e o i).length + 1) 64 = True:=eq_true (capP (by omega))
  unfold smSt
  by_cases hlt:i < o.length
  ·have hg:=q8 hlt
   have hC:=qmr (e:=e) (l:=o) (p:=o.getD i P0) hf
   have hs:=q6g e hlt
   have hltI:(i:Int) < (o.length:Int):=by omega
   generalize o.getD i P0 = q at *
   generalize covR e o q = b at *
   cases b with
   | true =>
     rw [if_pos rfl,List.append_nil] at hs
     by_cases h0:fltS e o i = []
     ·rw [h0] at hs
      simp only [h0,qw,qo,qn,List.append_nil]
      repeat' (first | refine vs_ ?_ | ((first | refine vr_ ?_ | fail)<;>(try simp (disch:=first | omega | (simp only [List.length_set,List.length_append,List.length_cons,List.length_nil];done) | (simp only [List.length_set,List.length_append,List.length_cons,List.length_nil];omega)) only [hg,hltI,qb,go_sem,↓reduceIte])) | ((first | simp (disch:=omega) only [hg] | (refine cs_ ?_ ?_<;>intro hc) | refine cj_ ?_ | simp (disch:=omega) only [encs_getN,qb] | refine qa hC fun _=>?_)<;>(try refine ev_ ?_)) | with_reducible exact ti_)
      refine qf (i + 1) [0] ⟨by omega,by omega⟩ rfl (by simp) ?_ ?_ ?_<;>simp only [smSt,hs,qw,qo,qn,List.append_nil]<;>(try refine ev_ ?_)<;>(try with_reducible exact ti_)<;>(try simp (disch:=omega) only [qb,and_true,true_and])
     ·have hne:=qbq h0
      simp only [qu hne,qv hne,qi,List.cons_append,List.nil_append]
      repeat' (first | refine vs_ ?_ | ((first | refine vr_ ?_ | fail)<;>(try simp (disch:=first | omega | (simp only [List.length_set,List.length_append,List.length_cons,List.length_nil];done) | (simp only [List.length_set,List.length_append,List.length_cons,List.length_nil];omega)) only [hg,hltI,qb,qi,go_sem,↓reduceIte])) | ((first | simp (disch:=omega) only [hg] | (refine cs_ ?_ ?_<;>intro hc) | refine cj_ ?_ | simp (disch:=omega) only [encs_getN,qb] | refine qa hC fun _=>?_)<;>(try refine ev_ ?_)) | with_reducible exact ti_)
      refine qf (i + 1) [0,1] ⟨by omega,by omega⟩ rfl (by simp) ?_ ?_ ?_<;>simp only [smSt,hs,qu hne,qv hne,qi,List.cons_append,List.nil_append]<;>(try refine ev_ ?_)<;>(try with_reducible exact ti_)<;>(try simp (disch:=omega) only [qb,and_true,true_and])
   | false =>
     rw [if_neg (by simp)] at hs
     by_cases h0:fltS e o i = []
     ·rw [h0,List.nil_append] at hs
      simp only [h0,qw,qo,qn,List.append_nil]
      repeat' (first | refine vs_ ?_ | ((first | refine vr_ ?_ | fail)<;>(try simp (disch:=first | omega | (simp only [List.length_set,List.length_append,List.length_cons,List.length_nil];done) | (simp only [List.length_set,List.length_append,List.length_cons,List.length_nil];omega)) only [hg,hltI,qb,go_sem,↓reduceIte])) | ((first | simp (disch:=omega) only [hg] | simp (disch:=omega) only [hcap1] | (refine cs_ ?_ ?_<;>intro hc) | refine cj_ ?_ | simp (disch:=omega) only [encs_getN,qb] | refine qa hC fun _=>?_)<;>(try refine ev_ ?_)) | with_reducible exact ti_)
      refine qf (i + 1) [0,2] ⟨by omega,by omega⟩ rfl (by simp) ?_ ?_ ?_<;>simp only [smSt,hs,← qid,qda,qdc,List.cons_append,List.nil_append]<;>(try refine ev_ ?_)<;>(try with_reducible exact ti_)<;>(try simp (disch:=omega) only [qb,and_true,true_and])
      all_goals trace_state
     ·have hne:=qbq h0
      simp only [qu hne,qv hne,qi,List.cons_append,List.nil_append]
      generalize fltS e o i = acc at *
      repeat' (first | refine vs_ ?_ | ((first | refine vr_ ?_ | fail)<;>(try simp (disch:=first | omega | (simp only [List.length_set,List.length_append,List.length_cons,List.length_nil];done) | (simp only [List.length_set,List.length_append,List.length_cons,List.length_nil];omega)) only [hg,hltI,qb,qi,go_sem,↓reduceIte])) | ((first | simp (disch:=omega) only [hg] | simp (disch:=omega) only [hcap2] | (refine cs_ ?_ ?_<;>intro hc) | refine cj_ ?_ | simp (disch:=omega) only [encs_getN,qb] | refine qa hC fun _=>?_)<;>(try refine ev_ ?_)) | with_reducible exact ti_)
      refine qf (i + 1) [0,3] ⟨by omega,by omega⟩ rfl (by simp) ?_ ?_ ?_<;>simp only [smSt,hs,← qb8,qdj,qdh,qi,List.cons_append,List.nil_append]<;>(try refine ev_ ?_)<;>(try with_reducible exact ti_)<;>(try simp (disch:=omega) only [qb,and_true,true_and])
      all_goals first | (simp only [qb8];exact ⟨qbk _ _,by rw [qbp]⟩) | trace_state
  ·have hltI:¬ (i:Int) < (o.length:Int):=by omega
   have hfin:fltS e o i = o.filter fun p=>!covR e o p:=by rw [fltS,List.take_of_length_le (by omega)]
   rw [← hfin]
   by_cases h0:fltS e o i = []
   ·simp only [h0,qw,qo,qn,List.append_nil]
    repeat' (first | refine vs_ ?_ | ((first | refine vr_ ?_ | fail)<;>(try simp only [hltI,q7,go_sem,↓reduceIte])) | ((first | (refine cs_ ?_ ?_<;>intro hc) | refine cj_ ?_ | simp (disch:=omega) only [encs_getN,qb])<;>(try refine ev_ ?_)) | with_reducible exact ti_)
   ·have hne:=qbq h0
    simp only [qu hne,qv hne,qi,List.cons_append,List.nil_append]
    repeat' (first | refine vs_ ?_ | ((first | refine vr_ ?_ | fail)<;>(try simp only [hltI,qi,go_sem,↓reduceIte])) | ((first | (refine cs_ ?_ ?_<;>intro hc) | refine cj_ ?_ | simp (disch:=omega) only [encs_getN,qb])<;>(try refine ev_ ?_)) | with_reducible exact ti_)
def rdA (r:List Pd×List Prf×Int×Int):AV:=.tup [.sl 4 (qg r.1),.sl 4 (qt r.2.1),.int .i64 r.2.2.1,.int .i64 r.2.2.2]
theorem qb11 (r:List Pd×List Prf×Int×Int):(rdA r).bd 0 = true:=by simp only [rdA,AV.bd,AV.bds,qbk,qey];rfl
set_option maxHeartbeats 1000000 in
theorem qfg {e:Env} {l:List Pd} (K:Nat) (hf:fewC e.cs) (hi:∀ x∈e.is,smlI x) (h30:∀ x∈e.is,x.ps.length≤30) (hp:∀ p∈l,szY p.ty≤20000∧dpY p.ty≤6) (hK:∀ p∈l,(qdq e p).1.length≤K) (hlK:l.length * K≤900000) (hll:l.length≤100000)
 (hH:(hdsL e l 0 []).1.length≤900000) (hM:∀ q∈simR e (hdsL e l 0 []).1,szY q.ty≤20000∧dpY q.ty≤300):qk Tryz.prog 16 [encV e,.sl 4 (qg l)] (rdA (redR e l)):=by
 refine qd c0da (by simp) (by simp only [go_sem]) (qb11 _) fun hw=>?_
 have h1:=qjs K hf hi h30 hp hK hlK
 have h2:=qij (e:=e) (l:=(hdsL e l 0 []).1) hf hH
 have h3:=qmv (e:=e) (simR e (hdsL e l 0 []).1) l hf hi hM (fun q hq=>by have:=hp q hq;omega) hll
 unfold redR
 generalize hdsL e l 0 [] = r at *
 obtain ⟨m,i,c⟩:=r
 dsimp only at h2 h3 ⊢
 unfold h3A at h1
 dsimp only at h1
 by_cases hc:c = 0
 ·subst hc
  rw [if_pos rfl]
  generalize allW e (simR e m) l = s at *
  obtain ⟨ps,j,d⟩:=s
  unfold allA at h3
  dsimp only at h3 ⊢
  by_cases hd:d = 0
  ·subst hd
   rw [if_pos rfl]
   repeat' (first | refine vs_ ?_ | ((first | refine vr_ ?_ | fail)<;>(try simp only [Int.reduceEq,decide_true,decide_false,go_sem,↓reduceIte])) | ((first | (refine cs_ ?_ ?_<;>intro hc) | refine cj_ ?_ | fail | refine qa h1 fun _=>?_ | refine qa h2 fun _=>?_ | refine qa h3 fun _=>?_)<;>(try refine ev_ ?_)) | with_reducible exact ti_)
   all_goals first | (exfalso;omega) | rfl | trace_state
  ·rw [if_neg hd]
   have hdd:decide (d = 0) = false:=decide_eq_false hd
   repeat' (first | refine vs_ ?_ | ((first | refine vr_ ?_ | fail)<;>(try simp only [hdd,hd,Int.reduceEq,decide_true,decide_false,go_sem,↓reduceIte])) | ((first | (refine cs_ ?_ ?_<;>intro hc) | refine cj_ ?_ | fail | refine qa h1 fun _=>?_ | refine qa h2 fun _=>?_ | refine qa h3 fun _=>?_)<;>(try refine ev_ ?_)) | with_reducible exact ti_)
   all_goals first | (exfalso;omega) | rfl | trace_state
 ·rw [if_neg hc]
  have hcd:decide (c = 0) = false:=decide_eq_false hc
  generalize hz:IC.seq q1q _ = z4
  repeat' (first | refine vs_ ?_ | ((first | refine vr_ ?_ | fail)<;>(try simp only [hcd,hc,go_sem,↓reduceIte])) | ((first | (refine cs_ ?_ ?_<;>intro hc) | refine cj_ ?_ | fail | refine qa h1 fun _=>?_)<;>(try refine ev_ ?_)) | with_reducible exact ti_)
  all_goals first | (exfalso;omega) | rfl | trace_state

theorem qt3:∀ (l acc:List Pd),acc.Nodup->(qbh acc l).Nodup
 | [],acc,h=>h
 | x :: r, acc, h => by
   rw [qbh]
   split
   ·exact qt3 r acc h
   ·rename_i hh
    refine qt3 r _ ?_
    have hn:x ∉ acc:=fun hm=>hh ((qp0 acc x).2 hm)
    rw [List.nodup_append]
    refine ⟨h,by simp,fun a ha b hb=>?_⟩
    rw [List.mem_singleton] at hb
    subst hb
    exact fun e=>hn (e ▸ ha)
theorem quj:∀ (l acc:List Pd),(acc ++ l).Nodup->qbh acc l = acc ++ l
 | [],acc,h=>by simp [qbh]
 | x :: r, acc, h => by
   have hn:¬ hasP acc x = true:=fun hh=>by
    have hm:=(qp0 acc x).1 hh
    rw [List.nodup_append] at h
    exact h.2.2 x hm x (by simp) rfl
   rw [qbh,if_neg hn,quj r (acc ++ [x]) (by simpa using h)]
   simp
theorem qxb {rec:Pd->WK->Int×WK} {S:Pd->Prop}:∀ (l:List Pd) (w:WK),(∀ q∈l,∀ w,(rec q w).1 = 0->∀ x∈(rec q w).2.out,x∈w.out∨S x)->(addL rec l w).1 = 0->∀ x∈(addL rec l w).2.out,x∈w.out∨S x
 | [],w,_,_,x,hx=>.inl hx
 | q :: r, w, h, h0, x, hx => by
   rw [addL] at h0 hx
   split at h0
   ·rename_i h1
    rw [if_pos h1] at hx
    rcases qxb r _ (fun q hq=>h q (by simp [hq])) h0 x hx with hx | hx
    ·exact h q (by simp) w h1 x hx
    ·exact .inr hx
   ·rename_i h1
    exact absurd h0 h1
theorem qxo {e:Env} {R:Pd->Prop} (hR:∀ q,R q->qcf q = false->(byI e.is q).2.2 = true->∀ x∈(byI e.is q).2.1,R x):∀ (f:Nat) (p:Pd) (w:WK),R p->(addF e f p w).1 = 0->∀ x∈(addF e f p w).2.out,x∈w.out∨(R x∧qcf x = true)
 | 0,p,w,hp,h0,x,hx=>by rw [addF] at h0;cases h0
 | f + 1, p, w, hp, h0, x, hx => by
   rw [addF] at h0 hx
   by_cases h1:hasP w.done p = true
   ·rw [if_pos h1] at hx;exact .inl hx
   rw [if_neg h1] at h0 hx
   by_cases h2:qcf p = true
   ·rw [if_pos h2] at h0 hx
    dsimp only at hx
    rcases List.mem_append.1 hx with hx | hx
    ·exact .inl hx
    ·rw [List.mem_singleton] at hx
     subst hx
     exact .inr ⟨hp,h2⟩
   rw [if_neg h2] at h0 hx
   have h2:qcf p = false:=by simpa using h2
   by_cases h3:(byI e.is p).2.2 = true
   ·rw [if_pos h3] at h0 hx
    exact qxb (S:=fun x=>R x∧qcf x = true) _ ⟨w.out,w.done ++ [p]⟩ (fun q hq w h=>qxo hR f q w (hR p hp h2 h3 q hq) h) h0 x hx
   ·rw [if_neg h3] at h0
    cases h0
theorem qpq {e:Env} {p:Pd} (h:(qdq e p).2 = 0):qbn p = true∧sndE e = true∧(addF e 7 p ⟨[],[]⟩).1 = 0∧(qdq e p).1 = (addF e 7 p ⟨[],[]⟩).2.out:=by
 unfold qdq at h ⊢
 split at h
 ·rename_i h1
  rw [if_pos h1]
  split at h
  ·rename_i h2
   rw [if_pos h2]
   exact ⟨h1.1,h1.2,h2,rfl⟩
  ·rename_i h2
   exact absurd h h2
 ·cases h
theorem qqx {e:Env} {R:Pd->Prop} (hR:∀ q,R q->qcf q = false->(byI e.is q).2.2 = true->∀ x∈(byI e.is q).2.1,R x) {p:Pd} (h:(qdq e p).2 = 0) (hp:R p):∀ x∈(qdq e p).1,R x∧qcf x = true:=fun x hx=>by
 obtain ⟨_,_,h1,h2⟩:=qpq h
 rw [h2] at hx
 rcases qxo hR 7 p ⟨[],[]⟩ hp h1 x hx with hx | hx
 ·cases hx
 ·exact hx
theorem qo8 {e:Env}:∀ (l:List Pd) (i:Nat) (acc:List Pd),(hdsL e l i acc).2.2 = 0->(∀ p∈l,(qdq e p).2 = 0)∧∀ x∈(hdsL e l i acc).1,x∈acc∨∃ p∈l,x∈(qdq e p).1
 | [],i,acc,_=>⟨by simp,fun x hx=>.inl hx⟩
 | p :: r, i, acc, h => by
   rw [hdsL] at h ⊢
   by_cases h1:(qdq e p).2 = 0
   ·rw [if_pos h1] at h ⊢
    obtain ⟨a,b⟩:=qo8 r (i + 1) _ h
    refine ⟨fun q hq=>?_,fun x hx=>?_⟩
    ·rcases List.mem_cons.1 hq with rfl | hq
     ·exact h1
     ·exact a q hq
    ·rcases b x hx with hx | ⟨q,hq,hx⟩
     ·rcases (qgb x _ []).1 hx with hx | hx
      ·cases hx
      ·rcases List.mem_append.1 hx with hx | hx
       ·exact .inl hx
       ·exact .inr ⟨p,by simp,hx⟩
     ·exact .inr ⟨q,by simp [hq],hx⟩
   ·rw [if_neg h1] at h
    exact absurd h h1
theorem qox {e:Env} {K:Nat}:∀ (l:List Pd) (i:Nat) (acc:List Pd),(∀ p∈l,(qdq e p).1.length≤K)->(hdsL e l i acc).1.length≤acc.length + l.length * K
 | [],i,acc,_=>by simp [hdsL]
 | p :: r, i, acc, h => by
   rw [hdsL]
   split
   ·have h1:=qox r (i + 1) (qbh [] (acc ++ (qdq e p).1)) fun q hq=>h q (by simp [hq])
    have h2:=qev (acc ++ (qdq e p).1) []
    have h3:=h p (by simp)
    rw [List.length_append,List.length_nil] at h2
    rw [List.length_cons,Nat.add_mul,Nat.one_mul]
    omega
   ·simp
theorem qxu {e:Env}:∀ (l:List Pd) (i:Nat) (acc:List Pd),(hdsL e l i acc).2.2≠0->(hdsL e l i acc).1 = []
 | [],i,acc,h=>absurd rfl h
 | p :: r, i, acc, h => by
   rw [hdsL] at h ⊢
   split
   ·rename_i h1
    rw [if_pos h1] at h
    exact qxu r _ _ h
   ·rfl
theorem q9s {cs:List Cls} {u v:List UInt8} (h:(pthC cs u v).2 = true):(pthC cs v v).2 = true:=by
 unfold pthC at h ⊢
 split at h
 ·cases h
 ·split at h
  ·cases h
  ·rename_i h2
   split at h
   ·rename_i h3
    rw [if_neg h2,if_neg h2,if_pos h3,pthF,if_pos rfl]
   ·cases h
theorem qvr {rec:Pd->Except Int (Prf×Int)}:∀ (l:List Pd) (ks:List Prf) (n:Int),isOk (srcL rec l ks n)->∀ q∈l,isOk (rec q)
 | [],ks,n,_,q,hq=>by cases hq
 | x :: r, ks, n, ⟨y, hy⟩, q, hq => by
   rw [srcL] at hy
   cases hx:rec x with
   | error c=>rw [hx] at hy;cases hy
   | ok z =>
     obtain ⟨z,k⟩:=z
     rw [hx] at hy
     dsimp only at hy
     split at hy
     ·cases hy
     ·rcases List.mem_cons.1 hq with rfl | hq
      ·exact ⟨_,hx⟩
      ·exact qvr r _ _ ⟨y,hy⟩ q hq
theorem qwi {e:Env} (hs:sndE e = true) {p:Pd} (hl:qba p.ty = true) (hp:qcf p = true):(byI e.is p).2.2 = false:=by
 rcases qj1 hs hl with h | ⟨j,hj,h1,h2,h3,h4,h5,h6,h7⟩
 ·rw [h]
 ·exfalso
  have hck:=qlw hs _ (qcq hj)
  have hx:hdI (e.is.getD j I0) = true:=by
   rw [chkI] at hck
   split at hck
   ·rename_i q;exact q.1
   ·cases hck
  simp only [hdI,Bool.and_eq_true,Bool.or_eq_true,decide_eq_true_eq] at hx
  obtain ⟨_,hc,_,_⟩:=hx
  rw [h2] at hc
  unfold qcf at hp
  rw [decide_eq_false h3,Bool.false_or] at hp
  generalize p.ty.con = c at *
  cases c with
  | nil=>exact h3 rfl
  | cons a r =>
    have ha:a = 33:=by
     simp only [pfx,List.length_singleton,List.take_succ_cons,List.take_zero,decide_eq_true_eq,List.cons.injEq,and_true] at hp
     exact hp
    subst ha
    rcases hc with hc | ⟨hc,_⟩
    ·simp [conW,qrs] at hc
    ·simp [arrW] at hc

theorem qbal {x q:Pd} (h:x.ty = q.ty):qcf x = qcf q:=by unfold qcf;rw [h]
theorem qql {e:Env} {l:List Pd} (h6:∀ p∈l,dpY p.ty≤6) (hc:(hdsL e l 0 []).2.2 = 0):∀ x∈(hdsL e l 0 []).1,qbn x = true∧dpY x.ty≤6∧qcf x = true∧sndE e = true:=fun x hx=>by
 obtain ⟨a,b⟩:=qo8 l 0 [] hc
 rcases b x hx with hx | ⟨p,hp,hx⟩
 ·cases hx
 ·obtain ⟨hl,hs,_,_⟩:=qpq (a p hp)
  have:=qqx (R:=fun q=>qbn q = true∧dpY q.ty≤6) (fun q hq hpl hb y hy=>by
   rcases qj1 hs (qdm hq.1) with h | ⟨j,hj,_,_,_,h4,_,_,h7⟩
   ·rw [h] at hb;cases hb
   ·rw [h7] at hy
    obtain ⟨k1,k2⟩:=q3b (qlw hs _ (qcq hj)) (qdm hq.1) h4 y hy
    exact ⟨k1,by have:=hq.2;omega⟩) (a p hp) ⟨hl,h6 p hp⟩ x hx
  exact ⟨this.1.1,this.1.2,this.2,hs⟩
theorem q2y {e:Env} {l m:List Pd} (hc:(hdsL e l 0 []).2.2 = 0) (hm:∀ x∈m,qcf x = true) (hA:∀ p∈l,(byW e m p).2 = 0):∀ x∈(hdsL e l 0 []).1,(pthC e.cs x.cls x.cls).2 = true:=fun x hx=>by
 obtain ⟨a,b⟩:=qo8 l 0 [] hc
 rcases b x hx with hx | ⟨p,hp,hx⟩
 ·cases hx
 ·obtain ⟨hl,hs,_,_⟩:=qpq (a p hp)
  have:=qqx (R:=fun q=>qbn q = true∧∃ f,isOk (srcF e m f q)) (fun q hq hpl hb y hy=>by
   obtain ⟨hql,f,r,hr⟩:=hq
   cases f with
   | zero=>rw [srcF] at hr;cases hr
   | succ f =>
     rw [srcF] at hr
     cases hsup:supF e.cs q m 0 with
     | some z =>
       exfalso
       obtain ⟨z,hz,hzt,_⟩:=(qf4 m 0).1 (by rw [hsup];rfl:(supF e.cs q m 0).isSome = true)
       have:=hm z hz
       rw [qbal hzt,hpl] at this
       cases this
     | none =>
       rw [hsup] at hr
       dsimp only at hr
       rw [if_pos hb] at hr
       cases hl:srcL (srcF e m f) (byI e.is q).2.1 [] 1 with
       | error c=>rw [hl] at hr;cases hr
       | ok s =>
         have hy':=qvr _ _ _ ⟨s,hl⟩ y hy
         rcases qj1 hs (qdm hql) with h | ⟨j,hj,_,_,_,h4,_,_,h7⟩
         ·rw [h] at hb;cases hb
         ·rw [h7] at hy
          exact ⟨(q3b (qlw hs _ (qcq hj)) (qdm hql) h4 y hy).1,f,hy'⟩) (a p hp) ⟨hl,101,(qbds (hA p hp)).2⟩ x hx
  obtain ⟨⟨hxl,f,r,hr⟩,hxp⟩:=this
  cases f with
  | zero=>rw [srcF] at hr;cases hr
  | succ f =>
    rw [srcF] at hr
    cases hsup:supF e.cs x m 0 with
    | some z =>
      obtain ⟨z,hz,hzt,hzp⟩:=(qf4 m 0).1 (by rw [hsup];rfl:(supF e.cs x m 0).isSome = true)
      exact q9s hzp
    | none =>
      rw [hsup] at hr
      dsimp only at hr
      rw [if_neg (by rw [qwi hs (qdm hxl) hxp];simp)] at hr
      cases hr
theorem qb7b {m:List Pd} (hnd:m.Nodup) {i:Nat} (hi:i < m.length) {z:Pd} (hz:z∈m.take i ++ m.drop (i + 1)):z≠m.getD i P0∧z∈m:=by
 have hsp:m = m.take i ++ (m.getD i P0 :: m.drop (i + 1)):=by rw [← V.dropP hi,List.take_append_drop]
 refine ⟨fun he=>?_,?_⟩
 ·rw [hsp] at hnd
  rw [List.nodup_append,List.nodup_cons] at hnd
  rcases List.mem_append.1 hz with hz | hz
  ·exact hnd.2.2 z hz (m.getD i P0) (by simp) he
  ·exact hnd.2.1.1 (he ▸ hz)
 ·rcases List.mem_append.1 hz with hz | hz
  ·exact List.mem_of_mem_take hz
  ·exact List.mem_of_mem_drop hz
theorem qbdf {e:Env} {o m:List Pd} (hnd:m.Nodup) (hm:∀ x∈m,x∈o∧covR e o x = false∧qbn x = true∧qcf x = true∧sndE e = true) {i:Nat} (hi:i < m.length):(byW e (m.take i ++ m.drop (i + 1)) (m.getD i P0)).2≠0:=fun h=>by
 obtain ⟨_,r,hr⟩:=qbds h
 obtain ⟨_,hcv,hl,hp,hs⟩:=hm _ (qdf hi)
 have hne:=fun z hz=>qb7b hnd hi (z:=z) hz
 generalize m.getD i P0 = q at *
 rw [srcF] at hr
 cases hsup:supF e.cs q (m.take i ++ m.drop (i + 1)) 0 with
 | some y =>
   obtain ⟨z,hz,hzt,hzp⟩:=(qf4 _ 0).1 (by rw [hsup];rfl:(supF e.cs q (m.take i ++ m.drop (i + 1)) 0).isSome = true)
   obtain ⟨h1,h2⟩:=hne z hz
   have h3:z.cls≠q.cls:=fun hc=>h1 (by cases z;cases q;simp_all)
   have:covR e o q = true:=by
    rw [qt8]
    refine List.any_eq_true.2 ⟨z,(hm z h2).1,?_⟩
    rw [cvQ,decide_eq_false h3,(qh6 _ _).2 hzt,hzp];rfl
   rw [hcv] at this
   cases this
 | none =>
   rw [hsup] at hr
   dsimp only at hr
   rw [if_neg (by rw [qwi hs (qdm hl) hp];simp)] at hr
   cases hr
theorem qk5 {e:Env} {q:Pd} (hl:qbn q = true) (hs:sndE e = true) (hp:qcf q = true):qdq e q = ([q],0):=by
 have h:addF e 7 q ⟨[],[]⟩ = (0,⟨[q],[q]⟩):=by
  rw [addF,if_neg (by simp [hasP]),if_pos hp];rfl
 rw [qdq,if_pos ⟨hl,hs⟩,h]
 rfl
theorem qnq {e:Env}:∀ (r:List Pd) (i:Nat) (acc:List Pd),(acc ++ r).Nodup->(∀ x∈r,qdq e x = ([x],0))->hdsL e r i acc = (acc ++ r,0,0)
 | [],i,acc,_,_=>by simp [hdsL]
 | x :: r, i, acc, hnd, h => by
   have h1:(acc ++ [x]).Nodup:=by
    have:acc ++ x :: r = (acc ++ [x]) ++ r:=by simp
    rw [this,List.nodup_append] at hnd
    exact hnd.1
   rw [hdsL,h x (by simp),if_pos rfl,quj (acc ++ [x]) [] (by simpa using h1),List.nil_append,qnq r (i + 1) (acc ++ [x]) (by simpa using hnd) fun y hy=>h y (by simp [hy])]
   simp
theorem q5x {e:Env} {m:List Pd} (hnd:m.Nodup) (hm:∀ x∈m,qbn x = true∧qcf x = true∧sndE e = true∧(pthC e.cs x.cls x.cls).2 = true∧covR e m x = false):hdsL e m 0 [] = (m,0,0)∧simR e m = m∧(redR e m).1 = m∧(redR e m).2.2.2 = 0:=by
 have h1:hdsL e m 0 [] = (m,0,0):=by
  have:=qnq (e:=e) m 0 [] (by simpa using hnd) fun x hx=>qk5 (hm x hx).1 (hm x hx).2.2.1 (hm x hx).2.1
  simpa using this
 have h2:simR e m = m:=by
  have ho:qbh [] m = m:=by have:=quj m [] (by simpa using hnd);simpa using this
  rw [simR,ho,List.filter_eq_self]
  intro x hx
  rw [(hm x hx).2.2.2.2];rfl
 have h3:(allW e m m).2.2 = 0:=(qtj e m m).2 fun p hp=>by
  obtain ⟨a,b,c,d,_⟩:=hm p hp
  have hsup:=(qf4 (cs:=e.cs) (p:=p) m 0).2 ⟨p,hp,rfl,d⟩
  rw [byW,if_pos ⟨a,List.all_eq_true.2 fun q hq=>(hm q hq).1,c⟩,srcF]
  cases hs:supF e.cs p m 0 with
  | none=>rw [hs] at hsup;cases hsup
  | some x=>rfl
 refine ⟨h1,h2,?_⟩
 unfold redR
 rw [h1]
 dsimp only
 rw [if_pos rfl,h2,if_pos h3]
 exact ⟨rfl,rfl⟩
theorem qbw5 {e:Env} {l:List Pd} (h6:∀ p∈l,dpY p.ty≤6):((redR e l).2.2.2≠0->(redR e l).1 = [])∧((redR e l).2.2.2 = 0->(redR e l).1.length≤(hdsL e l 0 []).1.length∧(∀ x∈(redR e l).1,qbn x = true∧dpY x.ty≤6∧qcf x = true∧sndE e = true) ∧
 (∀ i,i < (redR e l).1.length->(byW e ((redR e l).1.take i ++ (redR e l).1.drop (i + 1)) ((redR e l).1.getD i P0)).2≠0) ∧
 hdsL e (redR e l).1 0 [] = ((redR e l).1,0,0)∧simR e (redR e l).1 = (redR e l).1∧(redR e (redR e l).1).1 = (redR e l).1∧(redR e (redR e l).1).2.2.2 = 0):=by
 by_cases hc:(hdsL e l 0 []).2.2 = 0
 case neg =>
  have:redR e l = ([],[],(hdsL e l 0 []).2.1,(hdsL e l 0 []).2.2):=by rw [redR,if_neg hc]
  rw [this]
  exact ⟨fun _=>rfl,fun h=>absurd h hc⟩
 by_cases hA:(allW e (simR e (hdsL e l 0 []).1) l).2.2 = 0
 case neg =>
  have:redR e l = ([],[],(allW e (simR e (hdsL e l 0 []).1) l).2.1,(allW e (simR e (hdsL e l 0 []).1) l).2.2):=by rw [redR,if_pos hc,if_neg hA]
  rw [this]
  exact ⟨fun _=>rfl,fun h=>absurd h hA⟩
 have hr:redR e l = (simR e (hdsL e l 0 []).1,(allW e (simR e (hdsL e l 0 []).1) l).1,0,0):=by rw [redR,if_pos hc,if_pos hA]
 rw [hr]
 refine ⟨fun h=>absurd rfl h,fun _=>?_⟩
 dsimp only
 have hf:=qql h6 hc
 have hA':=(qtj e _ l).1 hA
 have hsub:∀ x∈simR e (hdsL e l 0 []).1,x∈qbh [] (hdsL e l 0 []).1∧x∈(hdsL e l 0 []).1∧covR e (qbh [] (hdsL e l 0 []).1) x = false:=fun x hx=>by
  rw [simR,List.mem_filter] at hx
  refine ⟨hx.1,?_,by simpa using hx.2⟩
  rcases (qgb x _ []).1 hx.1 with h | h
  ·cases h
  ·exact h
 have hk:=q2y hc (fun x hx=>(hf x (hsub x hx).2.1).2.2.1) hA'
 have hnd:(simR e (hdsL e l 0 []).1).Nodup:=by
  rw [simR];exact (qt3 _ [] (by simp)).filter _
 have hlen:(simR e (hdsL e l 0 []).1).length≤(hdsL e l 0 []).1.length:=by
  have h1:=qev (hdsL e l 0 []).1 []
  have h2:=List.length_filter_le (fun p=>!covR e (qbh [] (hdsL e l 0 []).1) p) (qbh [] (hdsL e l 0 []).1)
  rw [List.length_nil] at h1
  rw [simR]
  omega
 generalize simR e (hdsL e l 0 []).1 = m at *
 refine ⟨hlen,fun x hx=>hf x (hsub x hx).2.1,fun i hi=>qbdf (o:=qbh [] (hdsL e l 0 []).1) hnd (fun x hx=>?_) hi,q5x hnd fun x hx=>?_⟩
 ·obtain ⟨a,b,c⟩:=hsub x hx
  obtain ⟨p,_,q,r⟩:=hf x b
  exact ⟨a,c,p,q,r⟩
 ·obtain ⟨a,b,c⟩:=hsub x hx
  obtain ⟨p,_,q,r⟩:=hf x b
  refine ⟨p,q,r,hk x b,?_⟩
  rw [qt8,List.any_eq_false] at c ⊢
  exact fun z hz=>c z (hsub z hz).1
end Go.Proofs.YtgglaabljlhliaaGreat
