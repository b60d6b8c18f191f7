/- A text of this proof. -/
import Derived.Test.YtgglaabljlhliaaGreatLbq
import Derived.Test.YtgglaabljlhliaaGreatLbi
import Derived.Test.YtgglaabljlhliaaGreatLbs
import Derived.Test.YtgglaabljlhliaaGreatLbt
set_option linter.unusedVariables false
set_option linter.unusedSimpArgs false

/- what follows: the search -/
set_option maxRecDepth 4000
namespace Go.Proofs.YtgglaabljlhliaaGreat
open Go Go.RowKit Go.V

theorem qbd0 {H:List Ent} {rs:List AV} {l s:List Pr} {Kk:Md->AV->List Ent->Prop} (hs:smlR l) (hl:l.length≤100000) (e:newR l = s) (hq:Kk (.lay (subE s)) (.ptr H.length 0) (H ++ [subE s])):DApp Tryz.prog H (.fn 86 [] []) [.sl 4 (qdi l)] rs Kk :=
 .inr (.inr (.inr (.inr ⟨_,fun H₀=>qbz9 hs hl e ⟨rfl,rfl⟩,hq⟩)))
theorem qv0 {f:FuncId} {e e':Ent} {rest rs:List AV} {r:AV} {L:List Ent} {Kk:Md->AV->List Ent->Prop} (i:Nat) (h:VM Tryz.prog f e e' (.ptr 0 0 :: rest) r) (hrest:AV.bds 0 rest = true) (hr:r.bd 0 = true) (hq:Kk (.meth i e e') r (L.set i e')) (hn:e≠.dead:=by intro h;cases h) (hb:e.bd 0 = true:=by rfl) (hb':e'.bd 0 = true:=by rfl) (he:ent L i = e:=by rfl) :
 DApp Tryz.prog L (.fn f [] []) (.ptr i 0 :: rest) rs Kk:=by
 refine q74 i h hq hn hb hb' he hr ?_ ?_
 ·rw [List.append_nil,AV.rens,ql (m:=0) (fun j hj=>by omega) rest hrest];rfl
 ·rw [AV.bds,Bool.and_eq_true]
  exact ⟨rfl,qcs (Nat.zero_le _) _ hrest⟩
theorem qrm:∀ (ns:List Int) (x:Prf),szPf (supW x ns) = szPf x + ns.length
 | [],x=>by simp [supW]
 | n :: r, x => by
   show szPf (supW (.mk 2 n [] [x]) r) = _
   rw [qrm r,qob]
   simp only [Prf.kids,qcz,List.length_cons]
   omega
theorem qoe {cs:List Cls} {p:Pd}:∀ {g:List Pd} {i:Nat} {x:Prf},supF cs p g i = some x->szPf x≤201
 | [],i,x,h=>by cases h
 | q :: r, i, x, h => by
   rw [supF] at h
   split at h
   ·split at h
    ·simp only [Option.some.injEq] at h
     subst h
     have:=qwm cs q.cls p.cls
     rw [qrm,qob]
     simp only [Prf.kids,qcz]
     omega
    ·exact qoe h
   ·exact qoe h
def smW (e:Env):Prop:=∀ p:Pd,qbn p = true->(byI e.is p).2.1.length≤1000∧∀ q∈(byI e.is p).2.1,qbn q = true∧dpY q.ty < dpY p.ty
theorem qgc {p:Pd} (h:qbn p = true):szY p.ty≤4096∧dpY p.ty≤100∧qcg p.ty = true:=by
 rw [qbn,Bool.and_eq_true] at h
 exact (qb5 _).1 h.2
theorem q54 {rec:Pd->Except Int (Prf×Int)} (hr:∀ p x n,rec p = .ok (x,n)->0≤n∧n≤4096):∀ (l:List Pd) (ks:List Prf) (n:Int) (ks':List Prf) (n':Int),0≤n->n≤4096->srcL rec l ks n = .ok (ks',n')->0≤n'∧n'≤4096
 | [], ks, n, ks', n', h0, h1, h => by
   simp only [srcL,Except.ok.injEq,Prod.mk.injEq] at h
   omega
 | q :: r, ks, n, ks', n', h0, h1, h => by
   rw [srcL] at h
   cases hq:rec q with
   | error c=>rw [hq] at h;cases h
   | ok p =>
     obtain ⟨y,m⟩:=p
     rw [hq] at h
     dsimp only at h
     have:=hr q y m hq
     split at h
     ·cases h
     ·exact q54 hr r _ _ ks' n' (by omega) (by omega) h
theorem q5v {e:Env} {g:List Pd}:∀ (f:Nat) (p:Pd) (x:Prf) (n:Int),srcF e g f p = .ok (x,n)->0≤n∧n≤4096
 | 0,p,x,n,h=>by cases h
 | f + 1, p, x, n, h => by
   rw [srcF] at h
   cases hs:supF e.cs p g 0 with
   | some y =>
     rw [hs] at h
     simp only [Except.ok.injEq,Prod.mk.injEq] at h
     have:=qoe hs
     have:=qol y
     omega
   | none =>
     rw [hs] at h
     dsimp only at h
     split at h
     ·cases hl:srcL (srcF e g f) (byI e.is p).2.1 [] 1 with
      | error c=>rw [hl] at h;cases h
      | ok r =>
        obtain ⟨ks,m⟩:=r
        rw [hl] at h
        simp only [Except.ok.injEq,Prod.mk.injEq] at h
        have:=q54 (q5v f) (byI e.is p).2.1 [] 1 ks m (by omega) (by omega) hl
        omega
     ·cases h
theorem qfu {k:Nat} {rs:List (RV×Co)} {Q:List Ent->VO->Prop} (v:AV) (af:AF) (H:List Ent):retq k rs Q (.pan v) af H = dlq af.dl H (pank k Q v):=rfl
set_option maxHeartbeats 1000000 in
theorem qib {e:Env} {g:List Pd} (hf:fewC e.cs) (hi:∀ x∈e.is,smlI x) (hW:smW e):∀ (f:Nat) (p:Pd),qbn p = true->dpY p.ty < f->qxv Tryz.prog 53 [encV e,.sl 4 (qg g),encP p] (srcO (srcF e g f p))
 | 0,p,_,h=>absurd h (by omega)
 | f + 1, p, hL, h3 => by
   obtain ⟨h1,h2,_⟩:=qgc hL
   have h1:szY p.ty≤20000:=by omega
   have h2:dpY p.ty≤300:=by omega
   have ih:=qib (g:=g) hf hi hW f
   refine q0k c0dq (by simp) (by simp only [go_sem]) (qbl9 _) fun hw=>?_
   have hS:=qr2 hf g p
   have hB:=qvf hi h1 h2
   obtain ⟨w1,w2⟩:=hW p hL
   rw [srcF]
   unfold k0dq
   cases hs:supF e.cs p g 0 with
   | some x =>
     rw [hs] at hS
     unfold supA at hS
     dsimp only at hS ⊢
     have hz:=quh x (by have:=qoe hs;omega)
     generalize hz4:IC.seq q1t _ = z4
     repeat' (first | refine vs_ ?_ | ((first | refine vr_ ?_ | refine qa hS fun _=>?_ | refine qa hz fun _=>?_ | refine qc hS ?_ | refine qc hz ?_ | (refine cs_ ?_ ?_<;>intro hc) | refine cj_ ?_ | simp (disch:=omega) only [encs_getN,qb])<;>(try refine ev_ ?_)) | with_reducible exact ti_)
     all_goals first | rfl | trace_state
   | none =>
     rw [hs] at hS
     unfold supA at hS
     dsimp only at hS ⊢
     generalize byI e.is p = by' at *
     obtain ⟨k,wants,ok⟩:=by'
     unfold byA at hB
     dsimp only at hB w1 w2 ⊢
     cases ok with
     | false =>
       generalize hz7:IC.seq qph _ = z7
       generalize hz6:qup = z6
       repeat' (first | refine vs_ ?_ | ((first | refine vr_ ?_ | refine qa hS fun _=>?_ | refine qa hB fun _=>?_ | refine qc hS ?_ | refine qc hB ?_ | (refine cs_ ?_ ?_<;>intro hc) | refine cj_ ?_ | simp (disch:=omega) only [encs_getN,qb])<;>(try refine ev_ ?_)) | with_reducible exact ti_)
       subst hz6
       unfold qup
       refine q2j ?_
       (refine ev_ ?_;(try with_reducible exact ti_))
       refine ⟨_,_,rfl,?_⟩
       simp only [qmd,qfu]
       exact ⟨Nat.zero_le _,rfl,rfl,rfl⟩
     | true =>
       have hA:=qpc []
       have hAp:=qvo hA (by simp [newR,addR]) h1 h2
       obtain ⟨S,hnS⟩:∃ S,newR [] = S:=⟨_,rfl⟩
       have hSe:(appR [] p.ty) = appR S p.ty:=by rw [← hnS];rfl
       rw [hnS] at hAp
       rw [hSe]
       have hT0:∀ p:Ty×Int,typA p = .tup [encY p.1,.int .i64 p.2]:=fun _=>rfl
       have hb1:AV.bd 0 (typA (appR S p.ty)) = true:=q1v 0 _
       rw [hT0] at hAp hb1
       generalize appR S p.ty = X at *
       generalize hz9:IC.seq qph _ = z9
       repeat' (first | refine vs_ ?_ | ((first | refine vr_ ?_ | refine qa hS fun _=>?_ | refine qa hB fun _=>?_ | refine qc hS ?_ | refine qc hB ?_ | (refine cs_ ?_ ?_<;>intro hc) | refine cj_ ?_ | simp (disch:=omega) only [encs_getN,qb])<;>(try refine ev_ ?_)) | with_reducible exact ti_)
       subst hz9
       refine qmb (S:=Unit) (fun _=>True) (fun _=>(⟨[(1,.sl 4 (qg g)),(3,.ptr 0 0),(5,.ptr 1 0),(6,.ptr 2 0),(10,.int .i64 k),(11,.sl 4 (qg wants)),(13,.ptr 3 0)],[]⟩,[.blk (evc e),.blk (pdc p),.blk [.int .i64 0,.int .i64 0,.nils,.nils],.blk (yc X.1)])) ?_ fun _ _=>?_
       ·unfold qph
        refine qbhp 0 7 (by rfl) ?_ ?_
        ·simp only [qog,Nat.zero_add,Nat.reduceAdd,Nat.reduceEqDiff,if_false,if_true,List.filter,decide_true,decide_false,ne_eq,not_true_eq_false,not_false_eq_true]
         (refine ev_ ?_;(try with_reducible exact ti_))
         refine qbd0 (l:=[]) (fun q hq=>by cases hq) (by simp) hnS ?_
         (refine ev_ ?_;(try with_reducible exact ti_))
         refine qv0 4 hAp (by simp only [AV.bds,qck];rfl) hb1 ?_
         (refine ev_ ?_;(try with_reducible exact ti_))
         refine qf () [0,1,2,5] trivial rfl (by simp) ?_ ?_ ?_<;>(try refine ev_ ?_)<;>(try with_reducible exact ti_)<;>(try simp (disch:=omega) only [qb,and_true,true_and])
        ·simp only [qji,qf6,posL,List.getElem?_cons_succ,List.getElem?_cons_zero,List.map_cons,List.map_nil,Nat.reduceAdd,Nat.reduceEqDiff,Nat.reduceLT,if_false,if_true,ne_eq,not_true_eq_false,not_false_eq_true,and_true,and_false,true_and,false_and]
         (refine ev_ ?_;(try with_reducible exact ti_))
         refine qbd0 (l:=[]) (fun q hq=>by cases hq) (by simp) hnS ?_
         (refine ev_ ?_;(try with_reducible exact ti_))
         refine qv0 5 hAp (by simp only [AV.bds,qck];rfl) hb1 ?_
         (refine ev_ ?_;(try with_reducible exact ti_))
         refine qf () [0,1,2,4] trivial rfl (by simp) ?_ ?_ ?_<;>(try refine ev_ ?_)<;>(try with_reducible exact ti_)<;>(try simp (disch:=omega) only [qb,and_true,true_and])
       ·have hwl:wants.length≤maxLen:=by unfold maxLen;omega
        repeat' (first | refine vs_ ?_ | ((first | refine vr_ ?_ | (refine cs_ ?_ ?_<;>intro hc) | refine cj_ ?_ | simp (disch:=omega) only [encs_getN,qb])<;>(try refine ev_ ?_)) | with_reducible exact ti_)
        refine qj (S:=Nat×List Prf×Int) (fun x=>x.1≤wants.length∧x.2.1.length = x.1∧0≤x.2.2∧x.2.2≤4096∧srcL (srcF e g f) (wants.drop x.1) x.2.1 x.2.2 = srcL (srcF e g f) wants [] 1) (fun x=>(⟨[(1,.sl 4 (qg g)),(3,.ptr 0 0),(6,.ptr 2 0),(15,.ptr 3 0),(16,.int .i64 x.2.2),(55,.sl 4 (qg wants)),(56,.int .i64 wants.length),(57,.int .i64 x.1)],[]⟩,[.blk (evc e),.blk (pdc p),.blk [.int .i64 0,.int .i64 0,.nils,.nils],.blk [.int .i64 3,.int .i64 k,.sl 3 (qx X.1.args),accV 4 (qt x.2.1)]] ++ accE 4 (qt x.2.1))) (fun x=>wants.length - x.1) ?_ fun x hx=>?_
        ·refine qf (0,[],1) [0,1,2,4] ⟨Nat.zero_le _,rfl,by decide,by decide,rfl⟩ rfl (by simp) ?_ ?_ ?_<;>simp only [qt,qo,qn,List.append_nil]<;>(try refine ev_ ?_)<;>(try with_reducible exact ti_)<;>(try simp (disch:=omega) only [qb,and_true,true_and])
        ·obtain ⟨j,ks,n⟩:=x
         obtain ⟨x1,x2,x3,x4,x5⟩:=hx
         dsimp only at x1 x2 x3 x4 x5 ⊢
         by_cases hlt:j < wants.length
         ·have hg:=q8 hlt
          rw [V.dropP hlt,srcL] at x5
          obtain ⟨y1,y2⟩:=w2 _ (qdf hlt)
          have hq:=ih _ y1 (by omega)
          have hsz:=q5v (e:=e) (g:=g) f (wants.getD j P0)
          have hltI:(j:Int) < (wants.length:Int):=by omega
          generalize wants.getD j P0 = q at *
          have hcap1:qbb 1 64:=by unfold qbb;omega
          have hcap2:qbb (ks.length + 1) 64:=by unfold qbb;omega
          cases hr:srcF e g f q with
          | error c =>
            rw [hr] at hq x5
            dsimp only at x5
            unfold srcO at hq
            dsimp only at hq
            by_cases h0:ks = []
            ·subst h0
             simp only [qt,qo,qn,List.append_nil]
             repeat' (first | refine vs_ ?_ | ((first | refine vr_ ?_ | fail)<;>(try simp (disch:=first | omega | (simp only [List.length_set,List.length_append,List.length_cons,List.length_nil];done) | (simp only [List.length_set,List.length_append,List.length_cons,List.length_nil];omega)) only [hg,hltI,qb,go_sem,↓reduceIte])) | ((first | simp (disch:=omega) only [hg] | (refine cs_ ?_ ?_<;>intro hc) | refine cj_ ?_ | simp (disch:=omega) only [encs_getN,qb])<;>(try refine ev_ ?_)) | with_reducible exact ti_)
             refine qcv hq ?_
             simp only [qxe,qmd,qki,qru,qfu]
             exact ⟨Nat.zero_le _,rfl,rfl,by rw [← x5];rfl⟩
            ·have hne:qt ks≠[]:=by rw [qbe];simpa using h0
             simp only [qu hne,qv hne,qz,List.cons_append,List.nil_append]
             repeat' (first | refine vs_ ?_ | ((first | refine vr_ ?_ | fail)<;>(try simp (disch:=first | omega | (simp only [List.length_set,List.length_append,List.length_cons,List.length_nil];done) | (simp only [List.length_set,List.length_append,List.length_cons,List.length_nil];omega)) only [hg,hltI,qb,go_sem,↓reduceIte])) | ((first | simp (disch:=omega) only [hg] | (refine cs_ ?_ ?_<;>intro hc) | refine cj_ ?_ | simp (disch:=omega) only [encs_getN,qb])<;>(try refine ev_ ?_)) | with_reducible exact ti_)
             refine qcv hq ?_
             simp only [qxe,qmd,qki,qru,qfu]
             exact ⟨Nat.zero_le _,rfl,rfl,by rw [← x5];rfl⟩
          | ok ym =>
            obtain ⟨y,m⟩:=ym
            obtain ⟨z1,z2⟩:=hsz y m hr
            rw [hr] at hq x5
            dsimp only at x5
            unfold srcO at hq
            dsimp only at hq
            have hwp:IntKind.i64.wrap (n + m) = n + m:=qbc (by omega) (by omega)
            by_cases hbig:4096 < n + m
            ·rw [if_pos hbig] at x5
             generalize hz18:qj8 = z18
             by_cases h0:ks = []
             ·subst h0
              simp only [qt,qo,qn,List.append_nil]
              repeat' (first | refine vs_ ?_ | ((first | refine vr_ ?_ | fail)<;>(try simp (disch:=first | omega | (simp only [List.length_set,List.length_append,List.length_cons,List.length_nil];done) | (simp only [List.length_set,List.length_append,List.length_cons,List.length_nil];omega)) only [hg,hltI,qb,go_sem,↓reduceIte])) | ((first | simp (disch:=omega) only [hg] | (refine cs_ ?_ ?_<;>intro hc) | refine cj_ ?_ | simp (disch:=omega) only [encs_getN,qb])<;>(try refine ev_ ?_)) | with_reducible exact ti_)
              refine qcv hq ?_
              simp only [qeq]
              (simp (disch:=first | omega | (simp only [List.length_set,List.length_append,List.length_cons,List.length_nil];done) | (simp only [List.length_set,List.length_append,List.length_cons,List.length_nil];omega)) only [qb,go_sem,↓reduceIte])
              repeat' (first | refine vs_ ?_ | ((first | refine vr_ ?_ | fail)<;>(try simp (disch:=first | omega | (simp only [List.length_set,List.length_append,List.length_cons,List.length_nil];done) | (simp only [List.length_set,List.length_append,List.length_cons,List.length_nil];omega)) only [qb,hwp,hbig,qz,go_sem,↓reduceIte])) | ((first | simp (disch:=omega) only [hcap1] | simp (disch:=omega) only [hcap2] | (refine cs_ ?_ ?_<;>intro hc) | refine cj_ ?_ | simp (disch:=omega) only [encs_getN,qb])<;>(try refine ev_ ?_)) | with_reducible exact ti_)
              subst hz18
              unfold qj8
              refine q2j ?_
              (refine ev_ ?_;(try with_reducible exact ti_))
              refine ⟨_,_,rfl,?_⟩
              simp only [qmd,qki,qru,qfu]
              exact ⟨Nat.zero_le _,rfl,rfl,by rw [← x5];rfl⟩
             ·have hne:qt ks≠[]:=by rw [qbe];simpa using h0
              simp only [qu hne,qv hne,qz,List.cons_append,List.nil_append]
              repeat' (first | refine vs_ ?_ | ((first | refine vr_ ?_ | fail)<;>(try simp (disch:=first | omega | (simp only [List.length_set,List.length_append,List.length_cons,List.length_nil];done) | (simp only [List.length_set,List.length_append,List.length_cons,List.length_nil];omega)) only [hg,hltI,qb,go_sem,↓reduceIte])) | ((first | simp (disch:=omega) only [hg] | (refine cs_ ?_ ?_<;>intro hc) | refine cj_ ?_ | simp (disch:=omega) only [encs_getN,qb])<;>(try refine ev_ ?_)) | with_reducible exact ti_)
              refine qcv hq ?_
              simp only [qeq]
              (simp (disch:=first | omega | (simp only [List.length_set,List.length_append,List.length_cons,List.length_nil];done) | (simp only [List.length_set,List.length_append,List.length_cons,List.length_nil];omega)) only [qb,go_sem,↓reduceIte])
              repeat' (first | refine vs_ ?_ | ((first | refine vr_ ?_ | fail)<;>(try simp (disch:=first | omega | (simp only [List.length_set,List.length_append,List.length_cons,List.length_nil];done) | (simp only [List.length_set,List.length_append,List.length_cons,List.length_nil];omega)) only [qb,hwp,hbig,qz,go_sem,↓reduceIte])) | ((first | simp (disch:=omega) only [hcap1] | simp (disch:=omega) only [hcap2] | (refine cs_ ?_ ?_<;>intro hc) | refine cj_ ?_ | simp (disch:=omega) only [encs_getN,qb])<;>(try refine ev_ ?_)) | with_reducible exact ti_)
              subst hz18
              unfold qj8
              refine q2j ?_
              (refine ev_ ?_;(try with_reducible exact ti_))
              refine ⟨_,_,rfl,?_⟩
              simp only [qmd,qki,qru,qfu]
              exact ⟨Nat.zero_le _,rfl,rfl,by rw [← x5];rfl⟩
            ·rw [if_neg hbig] at x5
             have hks1:(ks ++ [y]).length = j + 1:=by rw [List.length_append,x2];rfl
             have hne1:qt (ks ++ [y])≠[]:=by rw [qbe];simp
             by_cases h0:ks = []
             ·subst h0
              simp only [qt,qo,qn,List.append_nil]
              repeat' (first | refine vs_ ?_ | ((first | refine vr_ ?_ | fail)<;>(try simp (disch:=first | omega | (simp only [List.length_set,List.length_append,List.length_cons,List.length_nil];done) | (simp only [List.length_set,List.length_append,List.length_cons,List.length_nil];omega)) only [hg,hltI,qb,go_sem,↓reduceIte])) | ((first | simp (disch:=omega) only [hg] | (refine cs_ ?_ ?_<;>intro hc) | refine cj_ ?_ | simp (disch:=omega) only [encs_getN,qb])<;>(try refine ev_ ?_)) | with_reducible exact ti_)
              refine qcv hq ?_
              simp only [qeq]
              (simp (disch:=first | omega | (simp only [List.length_set,List.length_append,List.length_cons,List.length_nil];done) | (simp only [List.length_set,List.length_append,List.length_cons,List.length_nil];omega)) only [qb,go_sem,↓reduceIte])
              repeat' (first | refine vs_ ?_ | ((first | refine vr_ ?_ | fail)<;>(try simp (disch:=first | omega | (simp only [List.length_set,List.length_append,List.length_cons,List.length_nil];done) | (simp only [List.length_set,List.length_append,List.length_cons,List.length_nil];omega)) only [qb,hwp,hbig,qz,go_sem,↓reduceIte])) | ((first | simp (disch:=omega) only [hcap1] | simp (disch:=omega) only [hcap2] | (refine cs_ ?_ ?_<;>intro hc) | refine cj_ ?_ | simp (disch:=omega) only [encs_getN,qb])<;>(try refine ev_ ?_)) | with_reducible exact ti_)
              have e1:qt [y] = [qb1 y]:=(qny y).symm
              refine qf (j + 1,[y],n + m) [0,1,2,3,6] ⟨⟨by dsimp only;omega,hks1,by dsimp only;omega,by dsimp only;omega,x5⟩,by dsimp only;omega⟩ rfl (by simp) ?_ ?_ ?_
              all_goals (simp only [e1,qda,qdc,List.cons_append,List.nil_append]<;>(try refine ev_ ?_)<;>(try with_reducible exact ti_)<;>(try simp (disch:=omega) only [qb,and_true,true_and]))
              all_goals trace_state
             ·have hne:qt ks≠[]:=by rw [qbe];simpa using h0
              simp only [qu hne,qv hne,qz,List.cons_append,List.nil_append]
              repeat' (first | refine vs_ ?_ | ((first | refine vr_ ?_ | fail)<;>(try simp (disch:=first | omega | (simp only [List.length_set,List.length_append,List.length_cons,List.length_nil];done) | (simp only [List.length_set,List.length_append,List.length_cons,List.length_nil];omega)) only [hg,hltI,qb,go_sem,↓reduceIte])) | ((first | simp (disch:=omega) only [hg] | (refine cs_ ?_ ?_<;>intro hc) | refine cj_ ?_ | simp (disch:=omega) only [encs_getN,qb])<;>(try refine ev_ ?_)) | with_reducible exact ti_)
              refine qcv hq ?_
              simp only [qeq]
              (simp (disch:=first | omega | (simp only [List.length_set,List.length_append,List.length_cons,List.length_nil];done) | (simp only [List.length_set,List.length_append,List.length_cons,List.length_nil];omega)) only [qb,go_sem,↓reduceIte])
              repeat' (first | refine vs_ ?_ | ((first | refine vr_ ?_ | fail)<;>(try simp (disch:=first | omega | (simp only [List.length_set,List.length_append,List.length_cons,List.length_nil];done) | (simp only [List.length_set,List.length_append,List.length_cons,List.length_nil];omega)) only [qb,hwp,hbig,qz,go_sem,↓reduceIte])) | ((first | simp (disch:=omega) only [hcap1] | simp (disch:=omega) only [hcap2] | (refine cs_ ?_ ?_<;>intro hc) | refine cj_ ?_ | simp (disch:=omega) only [encs_getN,qb])<;>(try refine ev_ ?_)) | with_reducible exact ti_)
              refine qf (j + 1,ks ++ [y],n + m) [0,1,2,3,7] ⟨⟨by dsimp only;omega,hks1,by dsimp only;omega,by dsimp only;omega,x5⟩,by dsimp only;omega⟩ rfl (by simp) ?_ ?_ ?_
              all_goals (simp only [qu hne1,qv hne1,qz,hks1,← qe4,List.cons_append,List.nil_append]<;>(try refine ev_ ?_)<;>(try with_reducible exact ti_)<;>(try simp (disch:=omega) only [qb,and_true,true_and]))
              all_goals first | (simp only [qe4];exact ⟨qey _ _,by rw [qi5]⟩) | (rw [x2]) | trace_state
         ·rw [List.drop_of_length_le (by omega),srcL] at x5
          rw [← x5]
          dsimp only
          have hltI:¬ (j:Int) < (wants.length:Int):=by omega
          by_cases h0:ks = []
          ·subst h0
           simp only [qt,qo,qn,List.append_nil]
           repeat' (first | refine vs_ ?_ | ((first | refine vr_ ?_ | fail)<;>(try simp only [hltI,go_sem,↓reduceIte])) | ((first | (refine cs_ ?_ ?_<;>intro hc) | refine cj_ ?_ | simp (disch:=omega) only [encs_getN,qb])<;>(try refine ev_ ?_)) | with_reducible exact ti_)
           all_goals simp only [srcO,qb1,qt]
          ·have hne:qt ks≠[]:=by rw [qbe];simpa using h0
           simp only [qu hne,qv hne,qz,List.cons_append,List.nil_append]
           repeat' (first | refine vs_ ?_ | ((first | refine vr_ ?_ | fail)<;>(try simp only [hltI,qz,go_sem,↓reduceIte])) | ((first | (refine cs_ ?_ ?_<;>intro hc) | refine cj_ ?_ | simp (disch:=omega) only [encs_getN,qb])<;>(try refine ev_ ?_)) | with_reducible exact ti_)
           all_goals simp only [srcO,qb1]
end Go.Proofs.YtgglaabljlhliaaGreat
