/- Texts of this proof, joined. -/
import Derived.Test.YtgglaabljlhliaaGreatLbd
import Derived.Test.YtgglaabljlhliaaGreatLan
import Derived.Test.YtgglaabljlhliaaGreatLbf
set_option linter.unusedVariables false
set_option linter.unusedSimpArgs false

/- matching: what it does -/
namespace Go.Proofs.YtgglaabljlhliaaGreat
open Go Go.RowKit Go.V



/-! the reference's -/
theorem qq1 {t a:Ty} (h:qba t = true) (ha:a∈t.args):qba a = true:=by
 obtain ⟨h1,h2,h3⟩:=(qb5 t).1 h
 have q1:=qiv ha
 have q2:=qkh ha
 rw [qin] at h1
 rw [qsj] at h2
 rw [qie,Bool.and_eq_true] at h3
 refine (qb5 a).2 ⟨by omega,by omega,?_⟩
 have:∀ l:List Ty,qcd l = true->∀ a∈l,qcg a = true:=fun l=>by
  induction l with
  | nil=>intro _ a ha;cases ha
  | cons x r ih =>
    intro hl a ha
    rw [qcd,Bool.and_eq_true] at hl
    rcases List.mem_cons.1 ha with rfl | ha
    ·exact hl.1
    ·exact ih hl.2 a ha
 exact this _ h3.1 a ha

def plnI (n:Int) (p:Pd):Bool:=conW p.cls && (decide (p.ty.con = []) && (decide (p.ty.args.length = 0) && (decide (0≤p.ty.var) && decide (p.ty.var < n))))
def hdI (x:Ins):Bool:=conW x.cls && ((conW x.con || (decide (x.con = arrW) && decide (x.n = 2))) && (decide (0≤x.n) && decide (x.n≤100)))
def chkI (x:Ins):Int:=if hdI x = true∧x.ps.all (plnI x.n) = true then 0 else 10
def fndI (cls con:List UInt8):List Ins->Nat->Int×Bool
 | [],_=>(0,false)
 | x :: r,i=>if x.cls = cls∧x.con = con then ((i:Int),true) else fndI cls con r (i + 1)
def qc3:List Ty->Nat->List Pr->List Pr
 | [],_,s=>s
 | t :: r,i,s=>qc3 r (i + 1) (setR s i t).1
def byI (l:List Ins) (p:Pd):Int×List Pd×Bool :=
 if (fndI p.cls p.ty.con l 0).2 = true∧p.ty.con≠[]∧(l.getD (fndI p.cls p.ty.con l 0).1.toNat I0).n = p.ty.args.length then
  ((fndI p.cls p.ty.con l 0).1,(prdR (qc3 p.ty.args 0 []) [] (l.getD (fndI p.cls p.ty.con l 0).1.toNat I0).ps).1,true)
 else (0,[],false)
theorem q00 {cls con:List UInt8} {l:List Ins} {i:Nat} (h:i < l.length):fndI cls con (l.drop i) i = if (l.getD i I0).cls = cls∧(l.getD i I0).con = con then ((i:Int),true) else fndI cls con (l.drop (i + 1)) (i + 1):=by rw [q4q h,fndI]
theorem qbby {cls con:List UInt8} {l:List Ins} {i:Nat} (h:l.length≤i) (k:Nat):fndI cls con (l.drop i) k = (0,false):=by rw [List.drop_of_length_le h,fndI]
theorem qt2 {cls con:List UInt8}:∀ (l:List Ins) (k:Nat),(fndI cls con l k).2 = true->∃ j,(fndI cls con l k).1 = ((k + j:Nat):Int)∧j < l.length∧(l.getD j I0).cls = cls∧(l.getD j I0).con = con
 | [],k,h=>by rw [fndI] at h;cases h
 | x :: r, k, h => by
   rw [fndI] at h ⊢
   by_cases hx:x.cls = cls∧x.con = con
   ·rw [if_pos hx];exact ⟨0,rfl,by simp,hx.1,hx.2⟩
   ·rw [if_neg hx] at h ⊢
    obtain ⟨j,h1,h2,h3,h4⟩:=qt2 r (k + 1) h
    exact ⟨j + 1,by rw [h1];congr 1;omega,by simpa using h2,h3,h4⟩
theorem qp1:∀ (r:List Ty) (i:Nat) (s:List Pr),okS s->okS (qc3 r i s)∧(qc3 r i s).length≤s.length + r.length
 | [],i,s,h=>⟨h,by simp [qc3]⟩
 | t :: r, i, s, h => by
   have h1:=qp1 r (i + 1) _ (qtd h i t)
   have h2:=qwo s i t
   rw [qc3,List.length_cons]
   exact ⟨h1.1,by omega⟩
theorem qs2:∀ (r:List Ty) (i:Nat) (s:List Pr) (x:Int) (u:Ty),(∀ t∈r,qba t = true)->qbm x s = some u->qbm x (qc3 r i s) = some u
 | [],i,s,x,u,_,h=>h
 | t :: r, i, s, x, u, hl, h => by
   rw [qc3]
   refine qs2 r (i + 1) _ x u (fun y hy=>hl y (by simp [hy])) ?_
   rw [qsa (hl t (by simp)),h]
theorem qnb:∀ (r:List Ty) (i:Nat) (s:List Pr),(∀ t∈r,qba t = true)->(∀ q∈s,q.v < i)->∀ k,k < r.length->qbm ((i + k:Nat):Int) (qc3 r i s) = some (r.getD k Y0)
 | [],i,s,_,_,k,hk=>by simp at hk
 | t :: r, i, s, hl, hs, k, hk => by
   rw [qc3]
   have hn:qbm (i:Int) s = none:=qop fun q hq=>by have:=hs q hq;omega
   have ht:=hl t (by simp)
   have h0:qbm (i:Int) (setR s i t).1 = some t:=by rw [qsa ht,hn];simp
   cases k with
   | zero=>exact qs2 r (i + 1) _ _ _ (fun y hy=>hl y (by simp [hy])) h0
   | succ k =>
     have h1:=qnb r (i + 1) (setR s i t).1 (fun y hy=>hl y (by simp [hy])) (fun q hq=>by
      rw [qpm ht hn] at hq
      rcases insR_mem.1 hq with rfl | hq
      ·push_cast;omega
      ·have:=hs q hq;push_cast;omega) k (by simpa using hk)
     rw [show i + (k + 1) = i + 1 + k by omega]
     exact h1
theorem q3n (v:Int):qba (.mk [] v []) = true:=by
 refine (qb5 _).2 ⟨by simp [szY,szYs],by simp [dpY,dpYs],?_⟩
 rw [qcg,qcd,Bool.true_and]
 rfl
theorem q4z {n:Int} {p:Pd} (h:plnI n p = true):p.ty = .mk [] p.ty.var []∧0≤p.ty.var∧p.ty.var < n:=by
 simp only [plnI,Bool.and_eq_true,decide_eq_true_eq] at h
 obtain ⟨_,h2,h3,h4,h5⟩:=h
 exact ⟨ty_eq.2 ⟨⟨h2,rfl⟩,List.length_eq_zero_iff.1 h3⟩,h4,h5⟩
theorem qbgl {args:List Ty} (hl:∀ t∈args,qba t = true) {v:Int} (h0:0≤v) (h1:v < args.length):appR (qc3 args 0 []) (.mk [] v []) = (args.getD v.toNat Y0,0):=by
 have hs:=(qp1 args 0 [] qn5).1
 have hk:=qnb args 0 [] hl (fun q hq=>by simp at hq) v.toNat (by omega)
 rw [show ((0 + v.toNat:Nat):Int) = v by omega] at hk
 have hg:=hl _ (qb2 (l:=args) (i:=v.toNat) (by omega))
 have hp:putY (qc3 args 0 []) (.mk [] v []) = args.getD v.toNat Y0:=by rw [putY,if_pos rfl,hk]
 rw [qtn hs,if_pos (q3n v),hp,if_pos hg]
theorem qv7 {s:List Pr}:∀ (ps acc:List Pd),(∀ p∈ps,(appR s p.ty).2 = 0)->prdR s acc ps = (acc ++ ps.map (fun p=>⟨p.cls,(appR s p.ty).1⟩),0)
 | [],acc,_=>by simp [prdR]
 | p :: r, acc, h => by
   rw [prdR,if_pos (h p (by simp)),qv7 r _ fun q hq=>h q (by simp [hq])]
   simp
theorem qbbn {x:Ins} {t:Ty} (h:chkI x = 0) (ht:qba t = true) (hn:x.n = t.args.length) :
 prdR (qc3 t.args 0 []) [] x.ps = (x.ps.map (fun p=>⟨p.cls,t.args.getD p.ty.var.toNat Y0⟩),0)∧∀ p∈x.ps,szY (t.args.getD p.ty.var.toNat Y0) < szY t:=by
 have hp:x.ps.all (plnI x.n) = true:=by
  rw [chkI] at h
  split at h
  ·rename_i h1;exact h1.2
  ·cases h
 have hl:∀ a∈t.args,qba a = true:=fun a ha=>qq1 ht ha
 have ha:∀ p∈x.ps,appR (qc3 t.args 0 []) p.ty = (t.args.getD p.ty.var.toNat Y0,0):=fun p hp'=>by
  obtain ⟨q1,q2,q3⟩:=q4z (List.all_eq_true.1 hp p hp')
  rw [q1]
  exact qbgl hl q2 (by omega)
 refine ⟨?_,fun p hp'=>?_⟩
 ·rw [qv7 x.ps [] fun p hp'=>by rw [ha p hp'],List.nil_append]
  congr 1
  exact List.map_congr_left fun p hp'=>by rw [ha p hp']
 ·obtain ⟨q1,q2,q3⟩:=q4z (List.all_eq_true.1 hp p hp')
  have:=qiv (qb2 (l:=t.args) (i:=p.ty.var.toNat) (by omega))
  rw [qin t];omega
set_option maxRecDepth 4000

theorem qt7 (p:Pd) (n:Int):qk Tryz.prog 83 [encP p,.int .i64 n] (.bool (plnI n p)):=by
 refine qd c0q (by simp) (by simp only [go_sem]) rfl fun hw=>?_
 repeat' (first | refine vs_ ?_ | ((first | refine vr_ ?_ | refine qa (qhk _) fun _=>?_ | (refine cs_ ?_ ?_<;>intro hc) | refine cj_ ?_ | fail)<;>(try refine ev_ ?_)) | with_reducible exact ti_)
 all_goals simp_all [plnI]
 all_goals omega
theorem qyh (l:List Ins) (cls con:List UInt8):qk Tryz.prog 111 [.sl 4 (qbv l),.str cls,.str con] (.tup [.int .i64 (fndI cls con l 0).1,.bool (fndI cls con l 0).2]):=by
 refine qd c0r (by simp) (by simp only [go_sem]) rfl fun hw=>?_
 have hl:=(qe3 hw.1).1
 repeat' (first | refine vs_ ?_ | ((first | refine vr_ ?_ | (refine cs_ ?_ ?_<;>intro hc) | refine cj_ ?_ | simp (disch:=omega) only [encs_getN,qb])<;>(try refine ev_ ?_)) | with_reducible exact ti_)
 refine qj (S:=Nat) (fun i=>i≤l.length∧fndI cls con (l.drop i) i = fndI cls con l 0) (fun i=>(⟨[(1,.str cls),(2,.str con),(10,.sl 4 (qbv l)),(11,.int .i64 l.length),(12,.int .i64 i)],[]⟩,[])) (fun i=>l.length - i) ?_ fun i hi=>?_
 ·refine qf 0 [] ⟨Nat.zero_le _,rfl⟩ rfl (by simp) ?_ ?_ ?_<;>(try refine ev_ ?_)<;>(try with_reducible exact ti_)<;>(try simp (disch:=omega) only [qb,and_true,true_and])
 ·obtain ⟨hi,ha⟩:=hi
  by_cases hlt:i < l.length
  ·have hg:=qe1 hlt
   rw [q00 hlt] at ha
   repeat' (first | refine vs_ ?_ | ((first | refine vr_ ?_ | fail)<;>(try simp (disch:=first | omega | (simp only [List.length_set,List.length_append,List.length_cons,List.length_nil];done) | (simp only [List.length_set,List.length_append,List.length_cons,List.length_nil];omega)) only [hg,qb,go_sem,↓reduceIte])) | ((first | simp (disch:=omega) only [hg] | (refine cs_ ?_ ?_<;>intro hc) | refine cj_ ?_ | simp (disch:=omega) only [encs_getN,qb])<;>(try refine ev_ ?_)) | with_reducible exact ti_)
   all_goals try (exfalso;omega)
   ·rw [if_pos ⟨by assumption,by assumption⟩] at ha
    rw [← ha]
   all_goals (rw [if_neg (by rintro ⟨a,b⟩;contradiction)] at ha)
   all_goals (refine qf (i + 1) [] ⟨⟨by omega,ha⟩,by omega⟩ rfl (by simp) ?_ ?_ ?_<;>(try refine ev_ ?_)<;>(try with_reducible exact ti_)<;>(try simp (disch:=omega) only [qb,and_true,true_and]))
  ·rw [qbby (by omega)] at ha
   repeat' (first | refine vs_ ?_ | ((first | refine vr_ ?_ | (refine cs_ ?_ ?_<;>intro hc) | refine cj_ ?_ | simp (disch:=omega) only [encs_getN,qb])<;>(try refine ev_ ?_)) | with_reducible exact ti_)
   all_goals first | (exfalso;omega) | (rw [← ha])
theorem qnm:∀ (a:List Ty) (t:Ty) (k:Nat) (s:List Pr),qc3 (a ++ [t]) k s = (setR (qc3 a k s) ((k + a.length:Nat):Int) t).1
 | [],t,k,s=>rfl
 | x :: a, t, k, s => by
   rw [List.cons_append,qc3,qc3,qnm a t (k + 1),List.length_cons,show k + 1 + a.length = k + (a.length + 1) by omega]
theorem qyd {l:List Ty} {i:Nat} (h:i < l.length) (s:List Pr):qc3 (l.take (i + 1)) 0 s = (setR (qc3 (l.take i) 0 s) (i:Int) (l.getD i Y0)).1:=by
 have h1:l.take (i + 1) = l.take i ++ [l.getD i Y0]:=by
  rw [List.take_add_one,List.getD_eq_getElem?_getD,List.getElem?_eq_getElem h];rfl
 rw [h1,qnm,List.length_take,Nat.min_eq_left (Nat.le_of_lt h),Nat.zero_add]
def smlI (x:Ins):Prop:=x.ps.length≤1000∧∀ p∈x.ps,szY p.ty≤20000∧dpY p.ty≤300
def byA (r:Int×List Pd×Bool):AV:=.tup [.int .i64 r.1,.sl 4 (qg r.2.1),.bool r.2.2]
theorem q57 {l:List Ins} {p:Pd} (h:(fndI p.cls p.ty.con l 0).2 = false):byI l p = (0,[],false):=by rw [byI,if_neg (by simp [h])]
theorem q07 {l:List Ins} {p:Pd} (h:p.ty.con = []):byI l p = (0,[],false):=by rw [byI,if_neg (by simp [h])]
theorem q0f {l:List Ins} {p:Pd} {j:Nat} (hj:(fndI p.cls p.ty.con l 0).1 = j) (h:¬ (l.getD j I0).n = p.ty.args.length):byI l p = (0,[],false):=by
 rw [byI,if_neg]
 rintro ⟨_,_,h3⟩
 rw [hj] at h3
 exact h h3
theorem q51 {l:List Ins} {p:Pd} {j:Nat} (h2:(fndI p.cls p.ty.con l 0).2 = true) (hj:(fndI p.cls p.ty.con l 0).1 = j) (hc:p.ty.con≠[]) (h:(l.getD j I0).n = p.ty.args.length):byI l p = ((j:Int),(prdR (qc3 p.ty.args 0 []) [] (l.getD j I0).ps).1,true):=by
 have hj':(fndI p.cls p.ty.con l 0).1.toNat = j:=by rw [hj];simp
 rw [byI,if_pos ⟨h2,hc,by rw [hj'];exact h⟩,hj',hj]
set_option maxHeartbeats 1000000 in
theorem qvf {l:List Ins} {p:Pd} (hs:∀ x∈l,smlI x) (h1:szY p.ty≤20000) (h2:dpY p.ty≤300):qk Tryz.prog 85 [.sl 4 (qbv l),encP p] (byA (byI l p)):=by
 refine qd c0s (by simp) (by simp only [go_sem]) (by simp only [byA,AV.bd,AV.bds,qbk,Bool.and_true]) fun hw=>?_
 have hl:=(qe3 hw.1).1
 have hF:=qyh l p.cls p.ty.con
 have hko:=qds (qbso hw.2.1).2
 cases hf:(fndI p.cls p.ty.con l 0).2 with
 | false =>
   rw [hf] at hF
   rw [q57 hf]
   repeat' (first | refine vs_ ?_ | ((first | refine vr_ ?_ | refine qa hF fun _=>?_ | refine qc hF ?_ | (refine cs_ ?_ ?_<;>intro hc) | refine cj_ ?_ | simp (disch:=omega) only [encs_getN,qb])<;>(try refine ev_ ?_)) | with_reducible exact ti_)
   all_goals rfl
 | true =>
   obtain ⟨j,hj,hjl,hj1,hj2⟩:=qt2 l 0 hf
   rw [Nat.zero_add] at hj
   rw [hf,hj] at hF
   have hg:=qe1 hjl
   by_cases hc:p.ty.con = []
   ·rw [q07 hc]
    rw [hc] at hF
    repeat' (first | refine vs_ ?_ | ((first | refine vr_ ?_ | fail)<;>(try simp only [hc,go_sem,↓reduceIte])) | ((first | (refine cs_ ?_ ?_<;>intro hc) | refine cj_ ?_ | simp (disch:=omega) only [encs_getN,qb] | refine qa hF fun _=>?_ | refine qc hF ?_)<;>(try refine ev_ ?_)) | with_reducible exact ti_)
    all_goals rfl
   by_cases hn:(l.getD j I0).n = p.ty.args.length
   case neg =>
    rw [q0f hj hn]
    repeat' (first | refine vs_ ?_ | ((first | refine vr_ ?_ | fail)<;>(try simp only [hc,hg,hn,go_sem,↓reduceIte])) | ((first | simp (disch:=omega) only [hg] | (refine cs_ ?_ ?_<;>intro hc) | refine cj_ ?_ | simp (disch:=omega) only [encs_getN,qb] | refine qa hF fun _=>?_ | refine qc hF ?_)<;>(try refine ev_ ?_)) | with_reducible exact ti_)
    all_goals rfl
   rw [q51 hf hj hc hn]
   repeat' (first | refine vs_ ?_ | ((first | refine vr_ ?_ | fail)<;>(try simp only [hc,hg,hn,go_sem,↓reduceIte])) | ((first | simp (disch:=omega) only [hg] | (refine cs_ ?_ ?_<;>intro hc) | refine cj_ ?_ | simp (disch:=omega) only [encs_getN,qb] | refine qa hF fun _=>?_ | refine qxy qbbz rfl rfl ?_ | refine qc hF ?_)<;>(try refine ev_ ?_)) | with_reducible exact ti_)
   obtain ⟨args,hargs⟩:∃ a,p.ty.args = a:=⟨_,rfl⟩
   have hba:∀ a∈args,szY a≤20000∧dpY a≤300:=fun a ha=>by
    rw [← hargs] at ha
    have q1:=qiv ha
    have q2:=qkh ha
    rw [qin] at h1
    rw [qsj] at h2
    omega
   have hal:args.length≤20000:=by
    have:=qkb args
    rw [qin,hargs] at h1
    omega
   rw [hargs]
   refine qj (S:=Nat) (fun i=>i≤args.length) (fun i=>(⟨[(0,.sl 4 (qbv l)),(3,.ptr 0 0),(7,.int .i64 j),(9,.ptr 1 0),(47,.sl 3 (qx args)),(48,.int .i64 args.length),(49,.int .i64 i)],[]⟩,[.blk [.str p.cls,.str p.ty.con,.int .i64 p.ty.var,.sl 3 (qx args)],subE (qc3 (args.take i) 0 [])])) (fun i=>args.length - i) ?_ fun i hi=>?_
   ·refine qf 0 [0,1] (Nat.zero_le _) rfl (by simp) ?_ ?_ ?_<;>(try refine ev_ ?_)<;>(try with_reducible exact ti_)<;>(try simp (disch:=omega) only [qb,and_true,true_and])
    all_goals rfl
   ·obtain ⟨ho,hlen⟩:=qp1 (args.take i) 0 [] qn5
    rw [List.length_take,Nat.min_eq_left hi,List.length_nil,Nat.zero_add] at hlen
    by_cases hlt:i < args.length
    ·have hgy:=qb6 hlt
     obtain ⟨q1,q2⟩:=hba _ (qb2 hlt)
     have hS:=qo3 ho.1 (by omega) (i:Int) q1 q2
     rw [← qyd hlt] at hS
     have hby:AV.bds 0 [.int .i64 i,encY (args.getD i Y0)] = true:=by simp only [AV.bds,AV.bd,qck,Bool.and_true]
     repeat' (first | refine vs_ ?_ | ((first | refine vr_ ?_ | fail)<;>(try simp (disch:=first | omega | (simp only [List.length_set,List.length_append,List.length_cons,List.length_nil];done) | (simp only [List.length_set,List.length_append,List.length_cons,List.length_nil];omega)) only [hgy,qb,go_sem,↓reduceIte])) | ((first | simp (disch:=omega) only [hgy] | (refine cs_ ?_ ?_<;>intro hc) | refine cj_ ?_ | simp (disch:=omega) only [encs_getN,qb] | refine qf2 1 hS hby rfl ?_)<;>(try refine ev_ ?_)) | with_reducible exact ti_)
     all_goals try (exfalso;omega)
     ·refine qf (i + 1) [0,1] ⟨by omega,by omega⟩ rfl (by simp) ?_ ?_ ?_<;>(try refine ev_ ?_)<;>(try with_reducible exact ti_)<;>(try simp (disch:=omega) only [qb,and_true,true_and])
      rw [qbc (by omega) (by omega),Int.natCast_add];rfl
    ·have hia:i = args.length:=by omega
     subst hia
     rw [List.take_length] at ho hlen ⊢
     obtain ⟨r1,r2⟩:=hs _ (qcq hjl)
     have hP:=q0j ho (by omega) r1 r2
     have hT:prdA (prdR (qc3 args 0 []) [] (l.getD j I0).ps) = .tup [.sl 4 (qg (prdR (qc3 args 0 []) [] (l.getD j I0).ps).1),.int .i64 (prdR (qc3 args 0 []) [] (l.getD j I0).ps).2]:=rfl
     rw [hT] at hP
     have hb1:AV.bd 0 (.tup [.sl 4 (qg (prdR (qc3 args 0 []) [] (l.getD j I0).ps).1),.int .i64 (prdR (qc3 args 0 []) [] (l.getD j I0).ps).2]) = true:=qbri 0 _
     have hb2:AV.bds 0 [.sl 4 (qg (l.getD j I0).ps)] = true:=by simp only [AV.bds,AV.bd,qbk,Bool.and_true]
     repeat' (first | refine vs_ ?_ | ((first | refine vr_ ?_ | fail)<;>(try simp only [hg,go_sem,↓reduceIte])) | ((first | simp (disch:=omega) only [hg] | (refine cs_ ?_ ?_<;>intro hc) | refine cj_ ?_ | simp (disch:=omega) only [encs_getN,qb] | refine qf2 1 hP hb2 hb1 ?_)<;>(try refine ev_ ?_)) | with_reducible exact ti_)
     all_goals try (exfalso;omega)
     all_goals rfl
end Go.Proofs.YtgglaabljlhliaaGreat
