/- Texts of this proof, joined. -/
import Derived.Test.YtgglaabljlhliaaGreatKca
import Derived.Test.YtgglaabljlhliaaGreatKcb
set_option linter.unusedVariables false
set_option linter.unusedSimpArgs false

/- chapter 25: what follows from something follows from more -/
set_option maxRecDepth 4000
namespace Go.Proofs.YtgglaabljlhliaaGreat
open Go Go.RowKit Go.V

theorem qbyf {n:Nat} (h:n≤1000):qbe n 64:=by unfold qbe;omega
theorem qo5:qp [] = []:=rfl
theorem qbaj {e:Env} (hw:(encV e).wf) (h:fewE e = true):fewC e.cs∧(∀ x∈e.is,smlI x)∧(∀ x∈e.is,x.ps.length≤30)∧e.is.length≤12:=by
 rw [fewE,Bool.and_eq_true] at h
 have h3:=qbba (l:=e.is) (fun x hx=>(qc4 (q2b ((qg5 hw.2.2.1).2 x hx)).2.2.2).1) h.2
 refine ⟨qqt h.1,fun x hx=>(h3 x hx).1,fun x hx=>(h3 x hx).2.1,?_⟩
 have:=h.2
 rw [fewI,Bool.and_eq_true,decide_eq_true_eq] at this
 exact this.1
theorem q4p {e:Env} {g l:List Pd} (hw:(encV e).wf) (hg:g.length≤maxLen) (hl:l.length≤maxLen) (h:qws e g l = true) :
 (fewC e.cs∧(∀ x∈e.is,smlI x)∧(∀ x∈e.is,x.ps.length≤30)∧e.is.length≤12)∧(g.length≤30∧∀ p∈g,szY p.ty≤20000∧dpY p.ty≤300)∧(l.length≤30∧∀ p∈l,szY p.ty≤20000∧dpY p.ty≤300):=by
 rw [qws,Bool.and_eq_true,Bool.and_eq_true,Bool.and_eq_true] at h
 exact ⟨qbaj hw h.1,qj5 hg h.2.1,qj5 hl h.2.2.1⟩
set_option maxRecDepth 4000

theorem qqp {t:Ty} (h1:szY t≤400000) (h2:dpY t≤400000):qg Tryz.prog 10 [encY t] (.bool (qv t)):=by
 refine qd c0bs (by simp) (by simp only [go_sem]) rfl fun hw=>?_
 have e1:=qf5 t
 have e2:=qg1 t
 rw [qeg t (by omega)] at e1
 rw [qh9 t (by omega)] at e2
 repeat' (first | refine vs_ ?_ | ((first | refine vr_ ?_ | refine qa e1 fun _=>?_ | refine qa e2 fun _=>?_ | refine qa (qlr t) fun _=>?_ | (refine cs_ ?_ ?_<;>intro hc) | refine cj_ ?_ | fail)<;>(try refine ev_ ?_)) | with_reducible exact ti_)
 all_goals
  rw [qv]
 ·rw [decide_eq_true (by omega),decide_eq_true (by omega)];rfl
 ·rw [decide_eq_false (p:=dpY t≤100) (by omega),Bool.false_and,Bool.and_false]
 ·rw [decide_eq_false (p:=szY t≤4096) (by omega)];rfl
theorem qd8 {p:Pd} (h1:szY p.ty≤400000) (h2:dpY p.ty≤400000):qg Tryz.prog 13 [encP p] (.bool (q7 p)):=by
 refine qd c0cy (by simp) (by simp only [go_sem]) rfl fun hw=>?_
 repeat' (first | refine vs_ ?_ | ((first | refine vr_ ?_ | refine qa (qpj _) fun _=>?_ | refine qa (qqp h1 h2) fun _=>?_ | (refine cs_ ?_ ?_<;>intro hc) | refine cj_ ?_ | fail)<;>(try refine ev_ ?_)) | with_reducible exact ti_)
 all_goals simp [q7, *]
theorem qnh (l:List Pd) (h:∀ p∈l,szY p.ty≤400000∧dpY p.ty≤400000):qg Tryz.prog 9 [.sl 4 (qp l)] (.bool (l.all q7)):=by
 refine qd c0cz (by simp) (by simp only [go_sem]) rfl fun hw=>?_
 have hl:=(qc4 hw.1).1
 repeat' (first | refine vs_ ?_ | ((first | refine vr_ ?_ | (refine cs_ ?_ ?_<;>intro hc) | refine cj_ ?_ | simp (disch:=omega) only [encs_getN,qb])<;>(try refine ev_ ?_)) | with_reducible exact ti_)
 refine qi (S:=Nat) (fun i=>i≤l.length∧(l.drop i).all q7 = l.all q7) (fun i=>(⟨[(0,.sl 4 (qp l)),(3,.int .i64 i)],[]⟩,[])) (fun i=>l.length - i) ?_ fun i hi=>?_
 ·refine qf 0 [] ⟨Nat.zero_le _,rfl⟩ rfl (by simp) ?_ ?_ ?_<;>(try refine ev_ ?_)<;>(try with_reducible exact ti_)<;>(try simp (disch:=omega) only [qb,and_true,true_and])
 ·obtain ⟨hi,ha⟩:=hi
  repeat' (first | refine vs_ ?_ | ((first | refine vr_ ?_ | fail)<;>(try simp (disch:=first | omega | (simp only [List.length_set,List.length_append,List.length_cons,List.length_nil];done) | (simp only [List.length_set,List.length_append,List.length_cons,List.length_nil];omega)) only [qbt,qb,go_sem,↓reduceIte])) | ((first | (refine cs_ ?_ ?_<;>intro hc) | refine cj_ ?_ | simp (disch:=omega) only [encs_getN,qb] | refine qa (qd8 (h _ (qgf (by omega))).1 (h _ (qgf (by omega))).2) fun _=>?_ | refine qc (qd8 (h _ (qgf (by omega))).1 (h _ (qgf (by omega))).2) ?_)<;>(try refine ev_ ?_)) | with_reducible exact ti_)
  ·rename_i hc;rw [← ha,dropP (by omega),List.all_cons,hc];rfl
  ·rename_i hc
   refine qf (i + 1) [] ⟨⟨by omega,?_⟩,by omega⟩ rfl (by simp) ?_ ?_ ?_<;>(try refine ev_ ?_)<;>(try with_reducible exact ti_)<;>(try simp (disch:=omega) only [qb,and_true,true_and])
   rw [← ha,dropP (l:=l) (i:=i) (by omega),List.all_cons,hc,Bool.true_and]
  ·rw [← ha,List.drop_of_length_le (by omega)];rfl
theorem qqd {t:Ty}:∀ l:List Ty,(∀ x∈l,szY (putT t x)≤szY x * szY t)->szYs (qcb t l)≤szYs l * szY t
 | [],_=>by rw [qcb];simp [szYs]
 | x :: r, h => by
   rw [qcb,szYs,szYs,Nat.add_mul]
   have:=h x (by simp)
   have:=qqd r fun y hy=>h y (by simp [hy])
   omega
theorem qbr8 (t:Ty):∀ u,szY (putT t u)≤szY u * szY t:=Ty.ind fun u ih=>by
 have h1:=q39 t
 rw [qnv,qfh u,Nat.add_mul,Nat.one_mul]
 split
 ·omega
 ·have:=qqd (t:=t) u.args ih
  rw [szY]
  omega
theorem qr7 {t:Ty}:∀ l:List Ty,(∀ x∈l,dpY (putT t x)≤dpY x + dpY t)->dpYs (qcb t l)≤dpYs l + dpY t
 | [],_=>by rw [qcb];simp [dpYs]
 | x :: r, h => by
   rw [qcb,dpYs,dpYs]
   have:=h x (by simp)
   have:=qr7 r fun y hy=>h y (by simp [hy])
   omega
theorem qbdb (t:Ty):∀ u,dpY (putT t u)≤dpY u + dpY t:=Ty.ind fun u ih=>by
 rw [qnv,qnf u]
 split
 ·omega
 ·have:=qr7 (t:=t) u.args ih
  rw [dpY]
  omega
theorem qil {t:Ty} {p:Pd} (hp:q7 p = true) (h1:szY t≤6) (h2:dpY t≤300):szY (wthP t p).ty≤400000∧dpY (wthP t p).ty≤400000:=by
 obtain ⟨a,b,_⟩:=qdz hp
 have c:=qbr8 t p.ty
 have d:=qbdb t p.ty
 have e:szY p.ty * szY t≤4096 * 6:=Nat.mul_le_mul a h1
 exact ⟨by show szY (putT t p.ty)≤_;omega,by show dpY (putT t p.ty)≤_;omega⟩
def wths (t:Ty) (g:List Pd):List Pd:=g.map (wthP t)
theorem qn8 (t:Ty) (g:List Pd):(wths t g).length = g.length:=List.length_map _
theorem q1m (t:Ty) {g:List Pd} {i:Nat} (h:i < g.length):qp (wths t (g.take (i + 1))) = qp (wths t (g.take i)) ++ [encP (wthP t (g.getD i P0))]:=by
 rw [qga,List.take_add_one,List.getElem?_eq_getElem h,List.getD_eq_getElem?_getD,List.getElem?_eq_getElem h,wths,List.map_append]
 rfl
def csSt (e:Env) (g:List Pd) (p:Pd) (t:Ty) (c:Int) (i:Nat):AF×List Ent:=(⟨[(3,.ptr 0 0),(5,.ptr 1 0),(7,.ptr 2 0),(8,.sl 4 (qp g)),(10,.int .i64 c),(11,accV 3 (qp (wths t (g.take i)))),(12,.int .i64 i)],[]⟩,[.blk (evc e),.blk (yc t),.blk (pdc p)] ++ accE 4 (qp (wths t (g.take i))))
set_option maxHeartbeats 4000000 in
theorem qlp (e:Env) (l:List Pd) (t:Ty):qg Tryz.prog 4 [encV e,.sl 4 (qp l),encY t] (.bool true):=by
 refine qd c0da (by simp) (by simp only [go_sem]) rfl fun hw=>?_
 cases l with
 | nil =>
   have h00:decide ((0:Int) = 0) = true:=rfl
   repeat' (first | refine vs_ ?_ | ((first | refine vr_ ?_ | fail)<;>(try simp only [qo5,List.length_nil,h00,go_sem,↓reduceIte])) | ((first | (refine cs_ ?_ ?_<;>intro hc) | refine cj_ ?_ | simp (disch:=omega) only [encs_getN,qb] | refine qa qbf fun _=>?_ | refine qc qbf ?_)<;>(try refine ev_ ?_)) | with_reducible exact ti_)
   all_goals trace_state
 | cons p g =>
   have hlw:g.length + 1≤maxLen:=(qc4 hw.2.1).1
   have hpc:qp (p :: g) = encP p :: qp g:=rfl
   have hF:qg Tryz.prog 6 [encV e,.sl 4 (qp g),.sl 4 [encP p,encP ⟨[67],t⟩]] (.bool (qws e g [p,⟨[67],t⟩])):=q4g e g [p,⟨[67],t⟩]
   have hn0:¬ ((g.length + 1:Nat):Int) = 0:=by omega
   rw [hpc]
   unfold k0da
   generalize hz4:IC.seq (IC.seq q02 _) _ = z4
   repeat' (first | refine vs_ ?_ | ((first | refine vr_ ?_ | fail)<;>(try simp only [List.length_cons,qbp,hn0,decide_false,go_sem,↓reduceIte])) | ((first | (refine cs_ ?_ ?_<;>intro hc) | refine cj_ ?_ | simp (disch:=omega) only [encs_getN,qb] | refine qa qbf fun _=>?_ | refine qc qbf ?_)<;>(try refine ev_ ?_)) | with_reducible exact ti_)
   subst hz4
   cases h1:qws e g [p,⟨[67],t⟩] with
   | false =>
     rw [h1] at hF
     repeat' (first | refine vs_ ?_ | ((first | refine vr_ ?_ | refine qa hF fun _=>?_ | refine qa qbf fun _=>?_ | refine qc hF ?_ | refine qc qbf ?_ | (refine cs_ ?_ ?_<;>intro hc) | refine cj_ ?_ | simp (disch:=omega) only [encs_getN,qb])<;>(try refine ev_ ?_)) | with_reducible exact ti_)
   | true =>
     rw [h1] at hF
     obtain ⟨⟨hf,hi,_,_⟩,⟨hgl,hgs⟩,_,hps⟩:=q4p hw.1 (by omega) (qjp (by simp)) h1
     have hp:=hps p (by simp)
     have ht:=hps ⟨[67],t⟩ (by simp)
     dsimp only at ht
     have hL:=qtk ht.1 ht.2
     have hZ:=qf5 t
     rw [qeg t (by omega)] at hZ
     cases hlt:qv t with
     | false =>
       rw [hlt] at hL
       repeat' (first | refine vs_ ?_ | ((first | refine vr_ ?_ | refine qa hF fun _=>?_ | refine qa hL fun _=>?_ | refine qa qbf fun _=>?_ | refine qc hF ?_ | refine qc hL ?_ | refine qc qbf ?_ | (refine cs_ ?_ ?_<;>intro hc) | refine cj_ ?_ | simp (disch:=omega) only [encs_getN,qb])<;>(try refine ev_ ?_)) | with_reducible exact ti_)
     | true =>
       rw [hlt] at hL
       have hB0:=qdw (e:=e) g (p:=p) hf hi hgs hp
       have hok:(byW e g p).2 = 0->q7 p = true∧g.all q7 = true:=fun h=>⟨(qzs h).1.1,(qzs h).1.2.1⟩
       have key0:(byW e g p).2 = 0->q7 (wthP t p) = true->(wths t g).all q7 = true->(byW e (wths t g) (wthP t p)).2 = 0∨(byW e (wths t g) (wthP t p)).2 = 2:=fun h a b=>q44 a b h
       have hW:=qnd p t (by omega)
       generalize byW e g p = r0 at *
       obtain ⟨y0,c0⟩:=r0
       unfold fndA at hB0
       dsimp only at hB0 hok key0
       by_cases h6:szY t≤6
       case neg =>
        generalize hz6:IC.seq q26 _ = z6
        repeat' (first | refine vs_ ?_ | ((first | refine vr_ ?_ | refine qa hF fun _=>?_ | refine qa hL fun _=>?_ | refine qa hZ fun _=>?_ | refine qa qbf fun _=>?_ | refine qc hF ?_ | refine qc hL ?_ | refine qc hZ ?_ | refine qc qbf ?_ | (refine cs_ ?_ ?_<;>intro hc) | refine cj_ ?_ | simp (disch:=omega) only [encs_getN,qb])<;>(try refine ev_ ?_)) | with_reducible exact ti_)
        all_goals try (exfalso;omega)
       repeat' (first | refine vs_ ?_ | ((first | refine vr_ ?_ | refine qa hF fun _=>?_ | refine qa hL fun _=>?_ | refine qa hZ fun _=>?_ | refine qa hB0 fun _=>?_ | refine qa qbf fun _=>?_ | refine qc hF ?_ | refine qc hL ?_ | refine qc hZ ?_ | refine qc hB0 ?_ | refine qc qbf ?_ | (refine cs_ ?_ ?_<;>intro hc) | refine cj_ ?_ | simp (disch:=omega) only [encs_getN,qb])<;>(try refine ev_ ?_)) | with_reducible exact ti_)
       all_goals try (exfalso;omega)
       refine qi (S:=Nat) (fun i=>i≤g.length) (csSt e g p t c0) (fun i=>g.length - i) ?_ fun i hi'=>?_
       ·refine qf 0 [0,1,2] (Nat.zero_le _) rfl (by simp) ?_ ?_ ?_<;>simp only [csSt,List.take_zero,wths,List.map_nil,qo5,qm,qn]<;>(try refine ev_ ?_)<;>(try with_reducible exact ti_)<;>(try simp (disch:=omega) only [qb,and_true,true_and])
       ·have hlm:(qp (wths t (g.take i))).length = i:=by rw [qbp,qn8,List.length_take];omega
        have hcap:qbe (i + 1) 64 = True:=eq_true (qbyf (by omega))
        have hcap1:qbe 1 64 = True:=eq_true (qbyf (by omega))
        unfold csSt
        by_cases hltg:i < g.length
        ·have hs:=q1m t hltg
         have hWi:=qnd (g.getD i P0) t (by have:=hgs _ (qhl hltg);omega)
         have hgt:=qbt hltg
         have hltI:(i:Int) < (g.length:Int):=by omega
         by_cases h0:i = 0
         ·subst h0
          simp only [List.take_zero,wths,List.map_nil,qo5,qm,qn,List.nil_append] at hs ⊢
          repeat' (first | refine vs_ ?_ | ((first | refine vr_ ?_ | fail)<;>(try simp (disch:=first | omega | (simp only [List.length_set,List.length_append,List.length_cons,List.length_nil];done) | (simp only [List.length_set,List.length_append,List.length_cons,List.length_nil];omega)) only [hgt,hltI,qb,go_sem,↓reduceIte])) | ((first | simp (disch:=omega) only [hgt] | simp (disch:=omega) only [hcap1] | (refine cs_ ?_ ?_<;>intro hc) | refine cj_ ?_ | simp (disch:=omega) only [encs_getN,qb] | refine qa hWi fun _=>?_ | refine qc hWi ?_)<;>(try refine ev_ ?_)) | with_reducible exact ti_)
          all_goals try (exfalso;omega)
          refine qf 1 [0,1,2,3] ⟨by omega,by omega⟩ rfl (by simp) ?_ ?_ ?_<;>simp only [csSt,wths,hs,qc3,qc2]<;>(try refine ev_ ?_)<;>(try with_reducible exact ti_)<;>(try simp (disch:=omega) only [qb,and_true,true_and])
          all_goals (rw [qgy])
         ·have hne:qp (wths t (g.take i))≠[]:=fun h=>h0 (by rw [← hlm,h];rfl)
          simp only [q8 hne,q9 hne,hlm]
          have hlm2:(wths t (g.take i)).length = i:=by rw [qn8,List.length_take];omega
          repeat' (first | refine vs_ ?_ | ((first | refine vr_ ?_ | fail)<;>(try simp (disch:=first | omega | (simp only [List.length_set,List.length_append,List.length_cons,List.length_nil];done) | (simp only [List.length_set,List.length_append,List.length_cons,List.length_nil];omega)) only [hgt,hltI,qb,hlm,hlm2,go_sem,↓reduceIte])) | ((first | simp (disch:=omega) only [hgt] | simp (disch:=omega) only [hcap] | (refine cs_ ?_ ?_<;>intro hc) | refine cj_ ?_ | simp (disch:=omega) only [encs_getN,qb] | refine qa hWi fun _=>?_ | refine qc hWi ?_)<;>(try refine ev_ ?_)) | with_reducible exact ti_)
          all_goals try (exfalso;omega)
          refine qf (i + 1) [0,1,2,4] ⟨by omega,by omega⟩ rfl (by simp) ?_ ?_ ?_<;>simp only [csSt,hs,qc9,qdh,hlm]<;>(try refine ev_ ?_)<;>(try with_reducible exact ti_)<;>(try simp (disch:=omega) only [qb,and_true,true_and])
          all_goals (rw [← hs];exact ⟨qea _ _,by rw [qli]⟩)
        ·have hti:g.take i = g:=List.take_of_length_le (by omega)
         have hltI:¬ (i:Int) < (g.length:Int):=by omega
         rw [hti] at hlm ⊢
         by_cases h0:g = []
         ·have hwn:wths t g = []:=by rw [h0];rfl
          rw [hwn] at hlm ⊢
          simp only [qo5,qm,qn]
          by_cases hc0:c0 = 0
          ·obtain ⟨hlp,hlg⟩:=hok hc0
           have hLq:=qd8 (p:=wthP t p) (qil hlp h6 ht.2).1 (qil hlp h6 ht.2).2
           have hA:=qnh (wths t g) fun q hq=>by
            rw [wths,List.mem_map] at hq
            obtain ⟨a,ha,rfl⟩:=hq
            exact qil (List.all_eq_true.1 hlg a ha) h6 ht.2
           subst hc0
           cases hq:q7 (wthP t p) with
           | false =>
             rw [hq] at hLq
             repeat' (first | refine vs_ ?_ | ((first | refine vr_ ?_ | fail)<;>(try simp only [hltI,qu,go_sem,↓reduceIte])) | ((first | (refine cs_ ?_ ?_<;>intro hc) | refine cj_ ?_ | simp (disch:=omega) only [encs_getN,qb] | refine qa hW fun _=>?_ | refine qa hLq fun _=>?_ | refine qa qbf fun _=>?_ | refine qc hW ?_ | refine qc hLq ?_ | refine qc qbf ?_)<;>(try refine ev_ ?_)) | with_reducible exact ti_)
             all_goals try (exfalso;omega)
           | true =>
             rw [hq] at hLq
             cases ha:(wths t g).all q7 with
             | false =>
               rw [ha] at hA
               rw [show wths t g = [] from hwn] at hA
               repeat' (first | refine vs_ ?_ | ((first | refine vr_ ?_ | fail)<;>(try simp only [hltI,qu,go_sem,↓reduceIte])) | ((first | (refine cs_ ?_ ?_<;>intro hc) | refine cj_ ?_ | simp (disch:=omega) only [encs_getN,qb] | refine qa hW fun _=>?_ | refine qa hLq fun _=>?_ | refine qa hA fun _=>?_ | refine qa qbf fun _=>?_ | refine qc hW ?_ | refine qc hLq ?_ | refine qc hA ?_ | refine qc qbf ?_)<;>(try refine ev_ ?_)) | with_reducible exact ti_)
               all_goals try (exfalso;omega)
             | true =>
               rw [ha] at hA
               have hB1:=qdw (e:=e) (wths t g) (p:=wthP t p) hf hi (fun q hq=>by
                have:=qdz (List.all_eq_true.1 ha q hq)
                omega) (by have:=qdz hq;omega)
               have key:=key0 rfl hq ha
               generalize byW e (wths t g) (wthP t p) = r1 at *
               obtain ⟨y1,c1⟩:=r1
               unfold fndA at hB1
               dsimp only at hB1 key
               rw [show wths t g = [] from hwn] at hA
               rw [show wths t g = [] from hwn] at hB1
               repeat' (first | refine vs_ ?_ | ((first | refine vr_ ?_ | fail)<;>(try simp only [hltI,qu,go_sem,↓reduceIte])) | ((first | (refine cs_ ?_ ?_<;>intro hc) | refine cj_ ?_ | simp (disch:=omega) only [encs_getN,qb] | refine qa hW fun _=>?_ | refine qa hLq fun _=>?_ | refine qa hA fun _=>?_ | refine qa hB1 fun _=>?_ | refine qa qbf fun _=>?_ | refine qc hW ?_ | refine qc hLq ?_ | refine qc hA ?_ | refine qc hB1 ?_ | refine qc qbf ?_)<;>(try refine ev_ ?_)) | with_reducible exact ti_)
               all_goals (exfalso;omega)
          ·have hcd:decide (c0 = 0) = false:=decide_eq_false hc0
           repeat' (first | refine vs_ ?_ | ((first | refine vr_ ?_ | fail)<;>(try simp only [hcd,hc0,hltI,qu,go_sem,↓reduceIte])) | ((first | (refine cs_ ?_ ?_<;>intro hc) | refine cj_ ?_ | simp (disch:=omega) only [encs_getN,qb] | refine qa hW fun _=>?_ | refine qa qbf fun _=>?_ | refine qc hW ?_ | refine qc qbf ?_)<;>(try refine ev_ ?_)) | with_reducible exact ti_)
           all_goals (exfalso;omega)
         ·have hne:qp (wths t g)≠[]:=fun h=>h0 (by have:=congrArg List.length h;rw [qbp,qn8] at this;exact List.length_eq_zero_iff.1 this)
          simp only [q8 hne,q9 hne,qbp]
          by_cases hc0:c0 = 0
          ·obtain ⟨hlp,hlg⟩:=hok hc0
           have hLq:=qd8 (p:=wthP t p) (qil hlp h6 ht.2).1 (qil hlp h6 ht.2).2
           have hA:=qnh (wths t g) fun q hq=>by
            rw [wths,List.mem_map] at hq
            obtain ⟨a,ha,rfl⟩:=hq
            exact qil (List.all_eq_true.1 hlg a ha) h6 ht.2
           subst hc0
           cases hq:q7 (wthP t p) with
           | false =>
             rw [hq] at hLq
             repeat' (first | refine vs_ ?_ | ((first | refine vr_ ?_ | fail)<;>(try simp only [hltI,qbp,go_sem,↓reduceIte])) | ((first | (refine cs_ ?_ ?_<;>intro hc) | refine cj_ ?_ | simp (disch:=omega) only [encs_getN,qb] | refine qa hW fun _=>?_ | refine qa hLq fun _=>?_ | refine qa qbf fun _=>?_ | refine qc hW ?_ | refine qc hLq ?_ | refine qc qbf ?_)<;>(try refine ev_ ?_)) | with_reducible exact ti_)
             all_goals try (exfalso;omega)
           | true =>
             rw [hq] at hLq
             cases ha:(wths t g).all q7 with
             | false =>
               rw [ha] at hA
               repeat' (first | refine vs_ ?_ | ((first | refine vr_ ?_ | fail)<;>(try simp only [hltI,qbp,go_sem,↓reduceIte])) | ((first | (refine cs_ ?_ ?_<;>intro hc) | refine cj_ ?_ | simp (disch:=omega) only [encs_getN,qb] | refine qa hW fun _=>?_ | refine qa hLq fun _=>?_ | refine qa hA fun _=>?_ | refine qa qbf fun _=>?_ | refine qc hW ?_ | refine qc hLq ?_ | refine qc hA ?_ | refine qc qbf ?_)<;>(try refine ev_ ?_)) | with_reducible exact ti_)
               all_goals try (exfalso;omega)
             | true =>
               rw [ha] at hA
               have hB1:=qdw (e:=e) (wths t g) (p:=wthP t p) hf hi (fun q hq=>by
                have:=qdz (List.all_eq_true.1 ha q hq)
                omega) (by have:=qdz hq;omega)
               have key:=key0 rfl hq ha
               generalize byW e (wths t g) (wthP t p) = r1 at *
               obtain ⟨y1,c1⟩:=r1
               unfold fndA at hB1
               dsimp only at hB1 key
               repeat' (first | refine vs_ ?_ | ((first | refine vr_ ?_ | fail)<;>(try simp only [hltI,qbp,go_sem,↓reduceIte])) | ((first | (refine cs_ ?_ ?_<;>intro hc) | refine cj_ ?_ | simp (disch:=omega) only [encs_getN,qb] | refine qa hW fun _=>?_ | refine qa hLq fun _=>?_ | refine qa hA fun _=>?_ | refine qa hB1 fun _=>?_ | refine qa qbf fun _=>?_ | refine qc hW ?_ | refine qc hLq ?_ | refine qc hA ?_ | refine qc hB1 ?_ | refine qc qbf ?_)<;>(try refine ev_ ?_)) | with_reducible exact ti_)
               all_goals (exfalso;omega)
          ·have hcd:decide (c0 = 0) = false:=decide_eq_false hc0
           repeat' (first | refine vs_ ?_ | ((first | refine vr_ ?_ | fail)<;>(try simp only [hcd,hc0,hltI,qbp,go_sem,↓reduceIte])) | ((first | (refine cs_ ?_ ?_<;>intro hc) | refine cj_ ?_ | simp (disch:=omega) only [encs_getN,qb] | refine qa hW fun _=>?_ | refine qa qbf fun _=>?_ | refine qc hW ?_ | refine qc qbf ?_)<;>(try refine ev_ ?_)) | with_reducible exact ti_)
           all_goals (exfalso;omega)
end Go.Proofs.YtgglaabljlhliaaGreat
