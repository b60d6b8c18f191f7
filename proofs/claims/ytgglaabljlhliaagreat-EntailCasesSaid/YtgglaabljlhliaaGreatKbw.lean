/- Texts of this proof, joined. -/
import Derived.Test.YtgglaabljlhliaaGreatKbv
import Derived.Test.YtgglaabljlhliaaGreatKbi
set_option linter.unusedVariables false
set_option linter.unusedSimpArgs false

/- what follows: find, By, All, Implies -/
set_option maxRecDepth 4000
namespace Go.Proofs.YtgglaabljlhliaaGreat
open Go Go.RowKit Go.V

def fndA (x:Prf×Int):AV:=.tup [qbr x.1,.int .i64 x.2]
theorem q0w (x:Prf×Int):(fndA x).bd 0 = true:=by simp only [fndA,AV.bd,AV.bds,qge];rfl
theorem q6q {k:Nat} {rs:List (RV×Co)} {Q:List Ent->VO->Prop} (af:AF) (H:List Ent):retr Tryz.prog k rs Q .ret af H = ∃ g first caps,af.dl = [.dfr (.fn g first caps) []]∧qrh Tryz.prog g .nili H (first ++ caps) fun H'=>retk k rs Q af H':=rfl
theorem q53 {k:Nat} {rs:List (RV×Co)} {Q:List Ent->VO->Prop} (v:AV) (af:AF) (H:List Ent):retr Tryz.prog k rs Q (.pan v) af H = ∃ g first caps,af.dl = [.dfr (.fn g first caps) []]∧qrh Tryz.prog g v H (first ++ caps) fun H'=>retk k rs Q af H':=rfl
set_option maxHeartbeats 1000000 in
theorem qs3 {e:Env} (g:List Pd) {p:Pd} (hf:fewC e.cs) (hi:∀ x∈e.is,smlI x) (hW:smW e) (hL:q7 p = true):qg Tryz.prog 29 [encV e,.sl 4 (qp g),encP p] (fndA (fndW (srcF e g 101 p))):=by
 refine ⟨qw8 c0df 0 (Nat.le_refl _) (by simp) ?_,by simp only [go_sem],q0w _⟩
 have hS:=qid (g:=g) hf hi hW 101 p hL (by have:=(qdz hL).2.1;omega)
 cases hr:srcF e g 101 p with
 | ok y =>
   obtain ⟨x,n⟩:=y
   rw [hr] at hS
   unfold srcO at hS
   dsimp only at hS
   repeat' (first | refine vs_ ?_ | ((first | refine vr_ ?_ | (refine cs_ ?_ ?_<;>intro hc) | refine cj_ ?_ | fail)<;>(try refine ev_ ?_)) | with_reducible exact ti_)
   refine qrr ?_
   (refine ev_ ?_;(try with_reducible exact ti_))
   refine ⟨_,[],[.ptr 2 0,.ptr 3 0],rfl,?_⟩
   repeat' (first | refine vs_ ?_ | ((first | refine vr_ ?_ | (refine cs_ ?_ ?_<;>intro hc) | refine cj_ ?_ | fail)<;>(try refine ev_ ?_)) | with_reducible exact ti_)
   refine qcn hS ?_
   simp only [qi6]
   (simp (disch:=first | omega | (simp only [List.length_set,List.length_append,List.length_cons,List.length_nil];done) | (simp only [List.length_set,List.length_append,List.length_cons,List.length_nil];omega)) only [qb,go_sem,↓reduceIte])
   repeat' (first | refine vs_ ?_ | ((first | refine vr_ ?_ | (refine cs_ ?_ ?_<;>intro hc) | refine cj_ ?_ | fail)<;>(try refine ev_ ?_)) | with_reducible exact ti_)
   simp only [q6q]
   refine ⟨_,[],[.ptr 2 0,.ptr 3 0],rfl,qbms ?_⟩
   simp only [retk,fin,List.take_zero,true_and]
   (refine ev_ ?_;(try with_reducible exact ti_))
   all_goals rfl
 | error c =>
   rw [hr] at hS
   unfold srcO at hS
   dsimp only at hS
   generalize hz:IC.seq q1w _ = z3
   repeat' (first | refine vs_ ?_ | ((first | refine vr_ ?_ | (refine cs_ ?_ ?_<;>intro hc) | refine cj_ ?_ | fail)<;>(try refine ev_ ?_)) | with_reducible exact ti_)
   refine qrr ?_
   (refine ev_ ?_;(try with_reducible exact ti_))
   refine ⟨_,[],[.ptr 2 0,.ptr 3 0],rfl,?_⟩
   repeat' (first | refine vs_ ?_ | ((first | refine vr_ ?_ | (refine cs_ ?_ ?_<;>intro hc) | refine cj_ ?_ | fail)<;>(try refine ev_ ?_)) | with_reducible exact ti_)
   refine qcn hS ?_
   simp only [qvb,qkr,q53]
   refine ⟨_,[],[.ptr 2 0,.ptr 3 0],rfl,q57 (e3:=.blk (pdc p)) ?_⟩
   simp only [retk,fin,List.take_zero,true_and]
   (refine ev_ ?_;(try with_reducible exact ti_))
   all_goals rfl
theorem qtr (g:List Pd):(g.any fun q=>!q7 q) = !(g.all q7):=by
 induction g with
 | nil=>rfl
 | cons q r ih=>rw [List.any_cons,List.all_cons,ih,Bool.not_and]
set_option maxHeartbeats 1000000 in
theorem qdw {e:Env} (g:List Pd) {p:Pd} (hf:fewC e.cs) (hi:∀ x∈e.is,smlI x) (hg:∀ q∈g,szY q.ty≤20000∧dpY q.ty≤300) (hp:szY p.ty≤20000∧dpY p.ty≤300):qg Tryz.prog 8 [encV e,.sl 4 (qp g),encP p] (fndA (byW e g p)):=by
 refine qd c0dg (by simp) (by simp only [go_sem]) (q0w _) fun hw=>?_
 have hI:=qgq hp.1 hp.2
 have hA:=q8l (f:=26) (g:=fun q=>!q7 q) (l:=g) fun q hq=>qgq (hg q hq).1 (hg q hq).2
 rw [qtr] at hA
 have hS:=qpm (e:=e) hf
 unfold byW
 cases h1:q7 p with
 | false =>
   rw [h1] at hI
   rw [if_neg (by simp)]
   repeat' (first | refine vs_ ?_ | ((first | refine vr_ ?_ | refine qa hI fun _=>?_ | (refine cs_ ?_ ?_<;>intro hc) | refine cj_ ?_ | fail)<;>(try refine ev_ ?_)) | with_reducible exact ti_)
   all_goals simp only [fndA,qgg]
 | true =>
   rw [h1] at hI
   cases h2:g.all q7 with
   | false =>
     rw [h2] at hA
     rw [if_neg (by simp)]
     repeat' (first | refine vs_ ?_ | ((first | refine vr_ ?_ | refine qa hI fun _=>?_ | refine qa hA fun _=>?_ | (refine cs_ ?_ ?_<;>intro hc) | refine cj_ ?_ | fail)<;>(try refine ev_ ?_)) | with_reducible exact ti_)
     all_goals simp only [fndA,qgg]
   | true =>
     rw [h2] at hA
     cases h3:sndE e with
     | false =>
       rw [h3] at hS
       rw [if_neg (by simp)]
       repeat' (first | refine vs_ ?_ | ((first | refine vr_ ?_ | refine qa hI fun _=>?_ | refine qa hA fun _=>?_ | refine qa hS fun _=>?_ | (refine cs_ ?_ ?_<;>intro hc) | refine cj_ ?_ | fail)<;>(try refine ev_ ?_)) | with_reducible exact ti_)
       all_goals simp only [fndA,qgg]
     | true =>
       rw [h3] at hS
       rw [if_pos ⟨rfl,rfl,rfl⟩]
       have hF:=qs3 g hf hi (qbsu h3 fun x hx=>(hi x hx).1) h1
       generalize fndW (srcF e g 101 p) = r at *
       obtain ⟨x,c⟩:=r
       unfold fndA at hF ⊢
       dsimp only at hF ⊢
       repeat' (first | refine vs_ ?_ | ((first | refine vr_ ?_ | refine qa hI fun _=>?_ | refine qa hA fun _=>?_ | refine qa hS fun _=>?_ | refine qa hF fun _=>?_ | (refine cs_ ?_ ?_<;>intro hc) | refine cj_ ?_ | fail)<;>(try refine ev_ ?_)) | with_reducible exact ti_)
set_option maxRecDepth 4000

def allL (e:Env) (g:List Pd):List Pd->Nat->List Prf->List Prf×Int×Int
 | [],i,acc=>(acc,0,0)
 | p :: r,i,acc=>if (byW e g p).2 = 0 then allL e g r (i + 1) (acc ++ [(byW e g p).1]) else ([],(i:Int),(byW e g p).2)
def allW (e:Env) (g l:List Pd):List Prf×Int×Int:=allL e g l 0 []
def allA (r:List Prf×Int×Int):AV:=.tup [.sl 4 (qs r.1),.int .i64 r.2.1,.int .i64 r.2.2]
theorem qbor (r:List Prf×Int×Int):(allA r).bd 0 = true:=by simp only [allA,AV.bd,AV.bds,qfv];rfl
def alSt (e:Env) (g l:List Pd) (x:Nat×List Prf):AF×List Ent:=(⟨[(1,.sl 4 (qp g)),(3,.ptr 0 0),(9,accV 1 (qs x.2)),(14,.sl 4 (qp l)),(15,.int .i64 l.length),(16,.int .i64 x.1)],[]⟩,[.blk (evc e)] ++ accE 4 (qs x.2))
set_option maxHeartbeats 1000000 in
theorem qmj {e:Env} (g l:List Pd) (hf:fewC e.cs) (hi:∀ x∈e.is,smlI x) (hg:∀ q∈g,szY q.ty≤20000∧dpY q.ty≤300) (hp:∀ q∈l,szY q.ty≤20000∧dpY q.ty≤300) (hll:l.length≤100000):qg Tryz.prog 24 [encV e,.sl 4 (qp g),.sl 4 (qp l)] (allA (allW e g l)):=by
 refine qd c0dd (by simp) (by simp only [go_sem]) (qbor _) fun hw=>?_
 have hl:=(qc4 hw.2.2.1).1
 repeat' (first | refine vs_ ?_ | ((first | refine vr_ ?_ | (refine cs_ ?_ ?_<;>intro hc) | refine cj_ ?_ | simp (disch:=omega) only [encs_getN,qb])<;>(try refine ev_ ?_)) | with_reducible exact ti_)
 refine qi (S:=Nat×List Prf) (fun x=>x.1≤l.length∧x.2.length = x.1∧allL e g (l.drop x.1) x.1 x.2 = allW e g l) (alSt e g l) (fun x=>l.length - x.1) ?_ fun x hx=>?_
 ·refine qf (0,[]) [0] ⟨Nat.zero_le _,rfl,rfl⟩ rfl (by simp) ?_ ?_ ?_<;>simp only [alSt,qs,qm,qn,List.append_nil]<;>(try refine ev_ ?_)<;>(try with_reducible exact ti_)<;>(try simp (disch:=omega) only [qb,and_true,true_and])
 ·obtain ⟨j,ks⟩:=x
  obtain ⟨x1,x2,x3⟩:=hx
  dsimp only at x1 x2 x3
  unfold alSt
  dsimp only
  by_cases hlt:j < l.length
  ·have hgt:=qbt hlt
   have hB:=qdw (p:=l.getD j P0) g hf hi hg (hp _ (qhl hlt))
   rw [V.dropP hlt,allL] at x3
   have hltI:(j:Int) < (l.length:Int):=by omega
   generalize l.getD j P0 = q at *
   generalize byW e g q = r at *
   obtain ⟨y,c⟩:=r
   unfold fndA at hB
   dsimp only at hB x3
   have hcap1:qbe 1 64:=by unfold qbe;omega
   have hcap2:qbe (ks.length + 1) 64:=by unfold qbe;omega
   by_cases hc0:c = 0
   ·rw [if_pos hc0] at x3
    subst hc0
    have hks1:(ks ++ [y]).length = j + 1:=by rw [List.length_append,x2];rfl
    have hne1:qs (ks ++ [y])≠[]:=by rw [qbc];simp
    by_cases h0:ks = []
    ·subst h0
     simp only [qs,qm,qn,List.append_nil]
     repeat' (first | refine vs_ ?_ | ((first | refine vr_ ?_ | fail)<;>(try simp (disch:=first | omega | (simp only [List.length_set,List.length_append,List.length_cons,List.length_nil];done) | (simp only [List.length_set,List.length_append,List.length_cons,List.length_nil];omega)) only [hgt,hltI,qb,go_sem,↓reduceIte])) | ((first | simp (disch:=omega) only [hgt] | simp (disch:=omega) only [hcap1] | simp (disch:=omega) only [hcap2] | (refine cs_ ?_ ?_<;>intro hc) | refine cj_ ?_ | simp (disch:=omega) only [encs_getN,qb] | refine qa hB fun _=>?_)<;>(try refine ev_ ?_)) | with_reducible exact ti_)
     all_goals try (exfalso;omega)
     have e1:qs [y] = [qbr y]:=(qm6 y).symm
     refine qf (j + 1,[y]) [0,3] ⟨⟨by dsimp only;omega,hks1,x3⟩,by dsimp only;omega⟩ rfl (by simp) ?_ ?_ ?_
     all_goals (simp only [alSt,e1,qc3,qc2,List.cons_append,List.nil_append]<;>(try refine ev_ ?_)<;>(try with_reducible exact ti_)<;>(try simp (disch:=omega) only [qb,and_true,true_and]))
     all_goals trace_state
    ·have hne:qs ks≠[]:=by rw [qbc];simpa using h0
     simp only [q8 hne,q9 hne,qx,List.cons_append,List.nil_append]
     repeat' (first | refine vs_ ?_ | ((first | refine vr_ ?_ | fail)<;>(try simp (disch:=first | omega | (simp only [List.length_set,List.length_append,List.length_cons,List.length_nil];done) | (simp only [List.length_set,List.length_append,List.length_cons,List.length_nil];omega)) only [hgt,hltI,qb,qx,go_sem,↓reduceIte])) | ((first | simp (disch:=omega) only [hgt] | simp (disch:=omega) only [hcap1] | simp (disch:=omega) only [hcap2] | (refine cs_ ?_ ?_<;>intro hc) | refine cj_ ?_ | simp (disch:=omega) only [encs_getN,qb] | refine qa hB fun _=>?_)<;>(try refine ev_ ?_)) | with_reducible exact ti_)
     all_goals try (exfalso;omega)
     refine qf (j + 1,ks ++ [y]) [0,4] ⟨⟨by dsimp only;omega,hks1,x3⟩,by dsimp only;omega⟩ rfl (by simp) ?_ ?_ ?_
     all_goals (simp only [alSt,q8 hne1,q9 hne1,qx,hks1,← qeo,List.cons_append,List.nil_append]<;>(try refine ev_ ?_)<;>(try with_reducible exact ti_)<;>(try simp (disch:=omega) only [qb,and_true,true_and]))
     all_goals first | (simp only [qeo];exact ⟨qfv _ _,by rw [qif]⟩) | (rw [x2]) | trace_state
   ·rw [if_neg hc0] at x3
    have hcd:decide (c = 0) = false:=decide_eq_false hc0
    rw [← x3]
    by_cases h0:ks = []
    ·subst h0
     simp only [qs,qm,qn,List.append_nil]
     repeat' (first | refine vs_ ?_ | ((first | refine vr_ ?_ | fail)<;>(try simp (disch:=first | omega | (simp only [List.length_set,List.length_append,List.length_cons,List.length_nil];done) | (simp only [List.length_set,List.length_append,List.length_cons,List.length_nil];omega)) only [hgt,hltI,hcd,qb,go_sem,↓reduceIte])) | ((first | simp (disch:=omega) only [hgt] | (refine cs_ ?_ ?_<;>intro hc) | refine cj_ ?_ | simp (disch:=omega) only [encs_getN,qb] | refine qa hB fun _=>?_)<;>(try refine ev_ ?_)) | with_reducible exact ti_)
     all_goals simp only [allA,qs]
    ·have hne:qs ks≠[]:=by rw [qbc];simpa using h0
     simp only [q8 hne,q9 hne,qx,List.cons_append,List.nil_append]
     repeat' (first | refine vs_ ?_ | ((first | refine vr_ ?_ | fail)<;>(try simp (disch:=first | omega | (simp only [List.length_set,List.length_append,List.length_cons,List.length_nil];done) | (simp only [List.length_set,List.length_append,List.length_cons,List.length_nil];omega)) only [hgt,hltI,hcd,qb,qx,go_sem,↓reduceIte])) | ((first | simp (disch:=omega) only [hgt] | (refine cs_ ?_ ?_<;>intro hc) | refine cj_ ?_ | simp (disch:=omega) only [encs_getN,qb] | refine qa hB fun _=>?_)<;>(try refine ev_ ?_)) | with_reducible exact ti_)
     all_goals simp only [allA,qs]
  ·rw [List.drop_of_length_le (by omega),allL] at x3
   rw [← x3]
   have hltI:¬ (j:Int) < (l.length:Int):=by omega
   by_cases h0:ks = []
   ·subst h0
    simp only [qs,qm,qn,List.append_nil]
    repeat' (first | refine vs_ ?_ | ((first | refine vr_ ?_ | fail)<;>(try simp only [hltI,go_sem,↓reduceIte])) | ((first | (refine cs_ ?_ ?_<;>intro hc) | refine cj_ ?_ | simp (disch:=omega) only [encs_getN,qb])<;>(try refine ev_ ?_)) | with_reducible exact ti_)
    all_goals simp only [allA,qs]
   ·have hne:qs ks≠[]:=by rw [qbc];simpa using h0
    simp only [q8 hne,q9 hne,qx,List.cons_append,List.nil_append]
    repeat' (first | refine vs_ ?_ | ((first | refine vr_ ?_ | fail)<;>(try simp only [hltI,qx,go_sem,↓reduceIte])) | ((first | (refine cs_ ?_ ?_<;>intro hc) | refine cj_ ?_ | simp (disch:=omega) only [encs_getN,qb])<;>(try refine ev_ ?_)) | with_reducible exact ti_)
    all_goals simp only [allA]
theorem qgl {e:Env} (g l:List Pd) (hf:fewC e.cs) (hi:∀ x∈e.is,smlI x) (hg:∀ q∈g,szY q.ty≤20000∧dpY q.ty≤300) (hp:∀ q∈l,szY q.ty≤20000∧dpY q.ty≤300) (hll:l.length≤100000):qg Tryz.prog 17 [encV e,.sl 4 (qp g),.sl 4 (qp l)] (.bool (decide ((allW e g l).2.2 = 0))):=by
 refine qd c0de (by simp) (by simp only [go_sem]) rfl fun hw=>?_
 have hA:=qmj g l hf hi hg hp hll
 generalize allW e g l = r at *
 obtain ⟨a,b,c⟩:=r
 unfold allA at hA
 dsimp only at hA ⊢
 repeat' (first | refine vs_ ?_ | ((first | refine vr_ ?_ | refine qa hA fun _=>?_ | (refine cs_ ?_ ?_<;>intro hc) | refine cj_ ?_ | fail)<;>(try refine ev_ ?_)) | with_reducible exact ti_)
set_option maxRecDepth 4000

theorem qbq1:digI 0 = [48]:=by simp [digI,digN]
theorem qb4l:digI 1 = [49]:=by simp [digI,digN]
theorem qjp {n:Nat} (h:n≤1000):n≤maxLen:=by unfold maxLen;omega
theorem q4c {x:Prf} (hk:x.kind = 1) (hn:x.num = 0):qg Tryz.prog 25 [qbr x] (.str [35,48]):=by
 refine qd c0dc (by simp) (by simp only [go_sem]) rfl fun hw=>?_
 have x2:2≤maxLen:=qjp (by omega)
 have x3:3≤maxLen:=qjp (by omega)
 have x4:4≤maxLen:=qjp (by omega)
 have h:=qc7 0
 rw [qbq1] at h
 repeat' (first | refine vs_ ?_ | ((first | refine vr_ ?_ | fail)<;>(try simp only [hk,hn,go_sem,↓reduceIte])) | ((first | (refine cs_ ?_ ?_<;>intro hc) | refine cj_ ?_ | simp (disch:=omega) only [encs_getN,qb] | refine qa h fun _=>?_ | refine qc h ?_)<;>(try refine ev_ ?_)) | with_reducible exact ti_)
 all_goals trace_state
theorem qz2 {x k:Prf} (hk:x.kind = 2) (hn:x.num = 0) (hks:qs x.kids = [qbr k]) (h:qg Tryz.prog 25 [qbr k] (.str [35,48])):qg Tryz.prog 25 [qbr x] (.str [35,48,46,48]):=by
 refine qd c0dc (by simp) (by simp only [go_sem]) rfl fun hw=>?_
 have x2:2≤maxLen:=qjp (by omega)
 have x3:3≤maxLen:=qjp (by omega)
 have x4:4≤maxLen:=qjp (by omega)
 have h0:=qc7 0
 rw [qbq1] at h0
 unfold k0dc
 generalize hz:qzd = z7
 repeat' (first | refine vs_ ?_ | ((first | refine vr_ ?_ | fail)<;>(try simp only [hk,hn,hks,Int.reduceEq,decide_true,decide_false,Bool.false_eq_true,List.length_cons,List.length_nil,go_sem,↓reduceIte])) | ((first | simp (disch:=omega) only [hk,hn,hks] | (refine cs_ ?_ ?_<;>intro hc) | refine cj_ ?_ | simp (disch:=omega) only [encs_getN,qb] | refine qa h fun _=>?_ | refine qa h0 fun _=>?_ | refine qc h ?_ | refine qc h0 ?_)<;>(try refine ev_ ?_)) | with_reducible exact ti_)
 all_goals (exfalso;omega)
set_option maxHeartbeats 400000 in
theorem qbaa {x:Prf} (hk:x.kind = 3) (hn:x.num = 1) (hks:qs x.kids = []):qg Tryz.prog 25 [qbr x] (.str [64,49]):=by
 refine qd c0dc (by simp) (by simp only [go_sem]) rfl fun hw=>?_
 have x2:2≤maxLen:=qjp (by omega)
 have h0:=qc7 1
 rw [qb4l] at h0
 unfold k0dc
 generalize hz:qvu = z10
 generalize hz2:qtd = z2
 generalize hz4:qta = z4
 generalize hz6:qtz = z6
 repeat' (first | refine vs_ ?_ | ((first | refine vr_ ?_ | fail)<;>(try simp only [hk,hn,hks,Int.reduceEq,decide_true,decide_false,Bool.false_eq_true,List.length_cons,List.length_nil,go_sem,↓reduceIte])) | ((first | simp (disch:=omega) only [hk,hn,hks] | (refine cs_ ?_ ?_<;>intro hc) | refine cj_ ?_ | simp (disch:=omega) only [encs_getN,qb] | refine qa h0 fun _=>?_ | refine qc h0 ?_)<;>(try refine ev_ ?_)) | with_reducible exact ti_)
 all_goals try (exfalso;omega)
def inSt (x k:Prf) (s:List UInt8) (i:Nat):AF×List Ent:=(⟨[(1,.ptr 0 0),(3,.str [64,48]),(4,.row 1 1),(53,.sl 4 [qbr k]),(54,.int .i64 1),(55,.int .i64 i)],[]⟩,[.blk [.int .i64 3,.int .i64 0,.sl 3 (qq x.types),.sl 4 [qbr k]],.mrow 1 [.str (if i = 0 then [] else s)]])
set_option maxHeartbeats 400000 in
theorem qq8 {x k:Prf} {s:List UInt8} (hk:x.kind = 3) (hn:x.num = 0) (hks:qs x.kids = [qbr k]) (h:qg Tryz.prog 25 [qbr k] (.str s)) (hs:s.length≤100):qg Tryz.prog 25 [qbr x] (.str ([64,48,40] ++ s ++ [41])):=by
 refine qd c0dc (by simp) (by simp only [go_sem]) rfl fun hw=>?_
 have x2:2≤maxLen:=qjp (by omega)
 have x3:3≤maxLen:=qjp (by omega)
 have h0:=qc7 0
 rw [qbq1] at h0
 have hj:=strings_Join (ls:=[s]) (sep:=[44,32]) (by simp) (by rw [Lib.join_one];omega)
 rw [Lib.join_one] at hj
 have m1:3 + s.length≤maxLen:=qjp (by omega)
 have m2:3 + s.length + 1≤maxLen:=qjp (by omega)
 unfold k0dc
 generalize hz2:qtd = z2
 generalize hz4:qta = z4
 generalize hz6:qtz = z6
 generalize hz9:q0x = z9
 repeat' (first | refine vs_ ?_ | ((first | refine vr_ ?_ | fail)<;>(try simp only [hk,hn,hks,Int.reduceEq,decide_true,decide_false,Bool.false_eq_true,List.length_cons,List.length_nil,go_sem,↓reduceIte])) | ((first | simp (disch:=omega) only [hk,hn,hks] | (refine cs_ ?_ ?_<;>intro hc) | refine cj_ ?_ | simp (disch:=omega) only [encs_getN,qb] | refine qa h0 fun _=>?_ | refine qc h0 ?_)<;>(try refine ev_ ?_)) | with_reducible exact ti_)
 all_goals try (exfalso;omega)
 refine qi (S:=Nat) (fun i=>i≤1) (inSt x k s) (fun i=>1 - i) ?_ fun i hi=>?_
 ·refine qf 0 [0,1] (by omega) rfl (by simp) ?_ ?_ ?_<;>simp only [inSt,if_true]<;>(try refine ev_ ?_)<;>(try with_reducible exact ti_)<;>(try simp (disch:=omega) only [qb,and_true,true_and])
  all_goals rfl
 ·unfold inSt
  by_cases h1:i = 1
  ·subst h1
   simp only [Nat.one_ne_zero,if_false]
   refine qbb0 1 rfl (by simp [AV.isAgg,AV.leaf,AV.cells]) ?_
   simp only [List.set_cons_zero,List.set_cons_succ]
   repeat' (first | refine vs_ ?_ | ((first | refine vr_ ?_ | fail)<;>(try simp only [Int.reduceEq,Int.reduceLT,decide_true,decide_false,Bool.false_eq_true,List.length_cons,List.length_nil,go_sem,↓reduceIte])) | ((first | (refine cs_ ?_ ?_<;>intro hc) | refine cj_ ?_ | simp (disch:=omega) only [encs_getN,qb] | refine qa hj fun _=>?_ | refine qc hj ?_)<;>(try refine ev_ ?_)) | with_reducible exact ti_)
   all_goals try (exfalso;omega)
  ·obtain rfl:i = 0:=by omega
   simp only [if_true]
   repeat' (first | refine vs_ ?_ | ((first | refine vr_ ?_ | fail)<;>(try simp (disch:=first | omega | (simp only [List.length_set,List.length_append,List.length_cons,List.length_nil];done) | (simp only [List.length_set,List.length_append,List.length_cons,List.length_nil];omega)) only [Int.reduceEq,Int.reduceLT,decide_true,decide_false,Bool.false_eq_true,List.length_cons,List.length_nil,qb,go_sem,↓reduceIte])) | ((first | (refine cs_ ?_ ?_<;>intro hc) | refine cj_ ?_ | simp (disch:=omega) only [encs_getN,qb] | refine qa h fun _=>?_ | refine qc h ?_)<;>(try refine ev_ ?_)) | with_reducible exact ti_)
   all_goals try (exfalso;omega)
   refine qf 1 [0,1] ⟨by omega,by omega⟩ rfl (by simp) ?_ ?_ ?_<;>simp only [inSt,Nat.one_ne_zero,if_false]<;>(try refine ev_ ?_)<;>(try with_reducible exact ti_)<;>(try simp (disch:=omega) only [qb,and_true,true_and])
   all_goals (rw [qgy])
end Go.Proofs.YtgglaabljlhliaaGreat
