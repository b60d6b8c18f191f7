/- Texts of this proof, joined. -/
import Derived.Test.YtkenggenkmfopaaGreatNbg
import Derived.Test.YtkenggenkmfopaaGreatNaw
set_option linter.unusedVariables false
set_option linter.unusedSimpArgs false

/- substitutions: within some variables; one behind the other -/
namespace Go.Proofs.YtkenggenkmfopaaGreat
open Go Go.RowKit Go.V

section
variable {P:Program} {f:FuncId} {e:Ent} {L:List Ent} {args:List AV} {Q:List Ent->VO->Prop}
theorem qg8 (h:VCalls P f [] args fun H' o=>H' = [e]∧o = .val (.ptr 0 0)) (hb:e.bd 0 = true) (ha:AV.bds 0 args = true) (hq:Q (L ++ [e]) (.val (.ptr L.length 0))):VApp P L (.fn f [] []) args Q:=by
 refine q7u h ha fun H1 o ho=>?_
 obtain ⟨rfl,rfl⟩:=ho
 have e1:qdm L [] [e] = L ++ [e]:=by
  show L ++ [e.ren _] = _
  rw [Ent.ren_bd0 hb]
 rw [e1]
 exact hq
end
theorem qfk {s:List Pr} (h:okS s):smlR s:=fun p hp=>by
 have:=(qs _).1 (h.2 p hp)
 omega
theorem qnr:VCalls Tryz.prog 39 [] [.sl 4 []] fun H' o=>H' = [subE []]∧o = .val (.ptr 0 0):=qns (l:=[]) (fun p hp=>by simp at hp) (by simp)
set_option maxRecDepth 4000

theorem qj0 (t:List Pr) (b:List Pr):∀ (a acc:List Pr),(qbm t acc a).2 = 0->qbm t acc (a ++ b) = qbm t (qbm t acc a).1 b
 | [],acc,_=>rfl
 | p :: r, acc, h => by
   rw [qbm] at h
   rw [List.cons_append,qbm,qbm]
   split at h
   ·rename_i h0
    rw [if_pos h0,if_pos h0,qj0 t b r _ h]
   ·rename_i h0
    exact absurd h h0
theorem qmd {t:List Pr}:∀ (a:List Pr) {acc:List Pr},okS acc->okS (qbm t acc a).1
 | [],_,h=>h
 | p :: r, acc, h => by
   rw [qbm]
   split
   ·exact qmd r (qqo h _ _)
   ·exact qef
theorem qj4 (t:List Pr):∀ (a acc:List Pr),(qbm t acc a).1.length≤acc.length + a.length
 | [],acc=>by simp [qbm]
 | p :: r, acc => by
   rw [qbm,List.length_cons]
   split
   ·have h1:=qj4 t r (setR acc p.v (appR t p.ty).1).1
    have h2:=qts acc p.v (appR t p.ty).1
    omega
   ·simp
theorem qbkz {s t:List Pr} (hs:okS s) (ht:okS t):behR s t = if (qbm t [] s).2 = 0 then (addR (qbm t [] s).1 t,0) else ([],(qbm t [] s).2):=by
 rw [behR,← qsq ht s [] hs.1 (fun p hp=>by simp at hp)]
theorem q12 {s t:List Pr} {i:Nat} (h:i < s.length) (h0:(qbm t [] (s.take i)).2 = 0):qbm t [] s = qbm t (qbm t [] (s.take i)).1 (s.getD i R0 :: s.drop (i + 1)):=by
 have:=qj0 t (s.drop i) (s.take i) [] h0
 rwa [List.take_append_drop,qbzv h] at this
theorem qsy {s t:List Pr} {i:Nat} (h:i < s.length) (h0:(qbm t [] (s.take i)).2 = 0) (ha:(appR t (s.getD i R0).ty).2 = 0):qbm t [] (s.take (i + 1)) = ((setR (qbm t [] (s.take i)).1 (s.getD i R0).v (appR t (s.getD i R0).ty).1).1,0):=by
 rw [qhe h,qj0 t _ _ _ h0,qbm,if_pos ha,qbm]
theorem ql4 {s t:List Pr} {i:Nat} (h:i < s.length) (h0:(qbm t [] (s.take i)).2 = 0) (ha:(appR t (s.getD i R0).ty).2≠0):qbm t [] s = ([],(appR t (s.getD i R0).ty).2):=by
 rw [q12 h h0,qbm,if_neg ha]
def newQ (L:List Ent) (p:List Pr×Int) (H':List Ent) (o:VO):Prop :=
 if p.2 = 0 then H' = L ++ [subE p.1]∧o = .val (.tup [.ptr L.length 0,.int .i64 0]) else H' = L∧o = .val (.tup [.nilp,.int .i64 p.2])
theorem q54 {s t:List Pr} (hs:okS s) (ht:okS t) (h1:s.length≤40000) (h2:t.length≤40000):VCalls Tryz.prog 71 [subE s,subE t] [.ptr 0 0,.ptr 1 0] (newQ [subE s,subE t] (behR s t)):=by
 have hms:=qfk hs
 have hmt:=qfk ht
 have hA:∀ ty,szY ty≤20000->dpY ty≤300->VM Tryz.prog 53 (subE t) (subE t) [.ptr 0 0,encY ty] (typA (appR t ty)):=fun ty q1 q2=>qpk (b:=true) (R:=bunR (subH t)) (fun v=>qr5 ht.1 (by omega) v) ht q1 q2
 have hstep:∀ i,i < s.length->(qbm t [] (s.take i)).2 = 0->risR (qbm t [] (s.take i)).1∧(qbm t [] (s.take i)).1.length≤40000:=fun i hi h0=>by
  have:=qj4 t (s.take i) []
  rw [List.length_take] at this
  exact ⟨(qmd (s.take i) qef).1,by simp at this;omega⟩
 have hap:∀ i,i < s.length->(appR t (s.getD i R0).ty).2 = 0->szY (appR t (s.getD i R0).ty).1≤20000∧dpY (appR t (s.getD i R0).ty).1≤300:=fun i hi h0=>by
  obtain ⟨_,q2,q3⟩:=qce ht h0
  rw [q3]
  have:=(qs _).1 q2
  omega
 rw [qbkz hs ht]
 by_cases he:(qbm t [] s).2 = 0
 ·rw [if_pos he]
  refine qc c0dk 3 (by simp) (by simp) ?_
  repeat' (first | refine vs_ ?_ | ((first | refine vr_ ?_ | refine qg8 qnr rfl rfl ?_ | refine qbl 0 (qea (by omega) hms) ?_ | (refine cs_ ?_ ?_<;>intro hc) | refine cj_ ?_ | simp (disch:=omega) only [encs_getN,qb])<;>(try refine ev_ ?_)) | with_reducible exact ti_)
  refine qp (S:=Nat) (fun i=>i≤s.length∧(qbm t [] (s.take i)).2 = 0) (fun i=>(⟨[(1,.ptr 1 0),(6,.ptr 2 0),(15,.sl 4 (qbq s)),(16,.int .i64 s.length),(17,.int .i64 i)],[]⟩,[subE s,subE t,subE (qbm t [] (s.take i)).1])) (fun i=>s.length - i) ?_ fun i hi=>?_
  ·refine qm 0 [0,1,2] ⟨Nat.zero_le _,rfl⟩ rfl (by simp) ?_ ?_ ?_<;>simp only [List.take_zero,qbm]<;>(try refine ev_ ?_)<;>(try with_reducible exact ti_)<;>(try simp (disch:=omega) only [qb,and_true,true_and])
  ·obtain ⟨hi,h0⟩:=hi
   by_cases hlt:i < s.length
   ·have hp:=qb3 hlt
    have hm:=hms _ (qfz hlt)
    obtain ⟨a1,a2⟩:=hstep i hlt h0
    by_cases ha:(appR t (s.getD i R0).ty).2 = 0
    ·obtain ⟨b1,b2⟩:=hap i hlt ha
     have hn:=qsy hlt h0 ha
     have hT:typA (appR t (s.getD i R0).ty) = .tup [encY (appR t (s.getD i R0).ty).1,.int .i64 0]:=by rw [typA,ha]
     repeat' (first | refine vs_ ?_ | ((first | refine vr_ ?_ | fail)<;>(try simp (disch:=first | omega | (simp only [List.length_set,List.length_append,List.length_cons,List.length_nil];done) | (simp only [List.length_set,List.length_append,List.length_cons,List.length_nil];omega)) only [hp,qb,go_sem,↓reduceIte])) | ((first | simp (disch:=omega) only [hp] | simp (disch:=omega) only [hT] | (refine cs_ ?_ ?_<;>intro hc) | refine cj_ ?_ | simp (disch:=omega) only [encs_getN,qb] | refine qbl 1 (hA _ hm.1 hm.2) ?_ rfl rfl (by simp) rfl (qrr 0 _) | refine qbl 2 (qht a1 (by omega) _ b1 b2) ?_)<;>(try refine ev_ ?_)) | with_reducible exact ti_)
     ·refine qm (i + 1) [0,1,2] ⟨⟨by omega,by rw [hn]⟩,by omega⟩ rfl (by simp) ?_ ?_ ?_<;>simp only [hn]<;>(try refine ev_ ?_)<;>(try with_reducible exact ti_)<;>(try simp (disch:=omega) only [qb,and_true,true_and])
      all_goals rw [qbb (by omega) (by omega),Int.natCast_add];rfl
     ·exfalso;omega
    ·exact absurd (by rw [ql4 hlt h0 ha] at he;exact he) ha
   ·have hie:i = s.length:=by omega
    subst hie
    rw [List.take_length]
    have hok:okS (qbm t [] s).1:=qmd s qef
    have hln:=qj4 t s []
    simp only [List.length_nil,Nat.zero_add] at hln
    repeat' (first | refine vs_ ?_ | ((first | refine vr_ ?_ | refine qbl 1 (qea (by omega) hmt) ?_ | (refine cs_ ?_ ?_<;>intro hc) | refine cj_ ?_ | simp (disch:=omega) only [encs_getN,qb])<;>(try refine ev_ ?_)) | with_reducible exact ti_)
    ·exfalso;omega
    ·generalize (qbm t [] s).1 = a at hok hln ⊢
     refine qp (S:=Nat) (fun i=>i≤t.length) (fun i=>(⟨[(6,.ptr 2 0),(38,.sl 4 (qbq t)),(39,.int .i64 t.length),(40,.int .i64 i)],[]⟩,[subE s,subE t,subE (addR a (t.take i))])) (fun i=>t.length - i) ?_ fun i hi=>?_
     ·refine qm 0 [0,1,2] (Nat.zero_le _) rfl (by simp) ?_ ?_ ?_<;>simp only [List.take_zero,addR]<;>(try refine ev_ ?_)<;>(try with_reducible exact ti_)<;>(try simp (disch:=omega) only [qb,and_true,true_and])
     ·by_cases hlt:i < t.length
      ·have hp:=qb3 hlt
       have hm:=hmt _ (qfz hlt)
       have hq:=qmu (t.take i) hok
       have hql:=qmw (t.take i) a
       rw [List.length_take] at hql
       have hn:=qwy hlt a
       repeat' (first | refine vs_ ?_ | ((first | refine vr_ ?_ | fail)<;>(try simp (disch:=first | omega | (simp only [List.length_set,List.length_append,List.length_cons,List.length_nil];done) | (simp only [List.length_set,List.length_append,List.length_cons,List.length_nil];omega)) only [hp,qb,go_sem,↓reduceIte])) | ((first | simp (disch:=omega) only [hp] | (refine cs_ ?_ ?_<;>intro hc) | refine cj_ ?_ | simp (disch:=omega) only [encs_getN,qb] | refine qbl 2 (qht hq.1 (by omega) _ hm.1 hm.2) ?_)<;>(try refine ev_ ?_)) | with_reducible exact ti_)
       ·refine qm (i + 1) [0,1,2] ⟨by omega,by omega⟩ rfl (by simp) ?_ ?_ ?_<;>simp only [hn]<;>(try refine ev_ ?_)<;>(try with_reducible exact ti_)<;>(try simp (disch:=omega) only [qb,and_true,true_and])
        all_goals rw [qbb (by omega) (by omega),Int.natCast_add];rfl
      ·have hie:i = t.length:=by omega
       subst hie
       rw [List.take_length]
       repeat' (first | refine vs_ ?_ | ((first | refine vr_ ?_ | (refine cs_ ?_ ?_<;>intro hc) | refine cj_ ?_ | simp (disch:=omega) only [encs_getN,qb])<;>(try refine ev_ ?_)) | with_reducible exact ti_)
       all_goals try (exfalso;omega)
       all_goals
        rw [newQ,if_pos rfl]
        exact ⟨rfl,rfl⟩
 ·rw [if_neg he]
  refine qc c0dk 2 (by simp) (by simp) ?_
  repeat' (first | refine vs_ ?_ | ((first | refine vr_ ?_ | refine qg8 qnr rfl rfl ?_ | refine qbl 0 (qea (by omega) hms) ?_ | (refine cs_ ?_ ?_<;>intro hc) | refine cj_ ?_ | simp (disch:=omega) only [encs_getN,qb])<;>(try refine ev_ ?_)) | with_reducible exact ti_)
  refine qp (S:=Nat) (fun i=>i≤s.length∧(qbm t [] (s.take i)).2 = 0) (fun i=>(⟨[(1,.ptr 1 0),(6,.ptr 2 0),(15,.sl 4 (qbq s)),(16,.int .i64 s.length),(17,.int .i64 i)],[]⟩,[subE s,subE t,subE (qbm t [] (s.take i)).1])) (fun i=>s.length - i) ?_ fun i hi=>?_
  ·refine qm 0 [0,1,2] ⟨Nat.zero_le _,rfl⟩ rfl (by simp) ?_ ?_ ?_<;>simp only [List.take_zero,qbm]<;>(try refine ev_ ?_)<;>(try with_reducible exact ti_)<;>(try simp (disch:=omega) only [qb,and_true,true_and])
  ·obtain ⟨hi,h0⟩:=hi
   have hlt:i < s.length:=by
    by_cases hlt:i < s.length
    ·exact hlt
    ·rw [List.take_of_length_le (by omega)] at h0
     exact absurd h0 he
   have hp:=qb3 hlt
   have hm:=hms _ (qfz hlt)
   obtain ⟨a1,a2⟩:=hstep i hlt h0
   by_cases ha:(appR t (s.getD i R0).ty).2 = 0
   ·obtain ⟨b1,b2⟩:=hap i hlt ha
    have hn:=qsy hlt h0 ha
    have hT:typA (appR t (s.getD i R0).ty) = .tup [encY (appR t (s.getD i R0).ty).1,.int .i64 0]:=by rw [typA,ha]
    repeat' (first | refine vs_ ?_ | ((first | refine vr_ ?_ | fail)<;>(try simp (disch:=first | omega | (simp only [List.length_set,List.length_append,List.length_cons,List.length_nil];done) | (simp only [List.length_set,List.length_append,List.length_cons,List.length_nil];omega)) only [hp,qb,go_sem,↓reduceIte])) | ((first | simp (disch:=omega) only [hp] | simp (disch:=omega) only [hT] | (refine cs_ ?_ ?_<;>intro hc) | refine cj_ ?_ | simp (disch:=omega) only [encs_getN,qb] | refine qbl 1 (hA _ hm.1 hm.2) ?_ rfl rfl (by simp) rfl (qrr 0 _) | refine qbl 2 (qht a1 (by omega) _ b1 b2) ?_)<;>(try refine ev_ ?_)) | with_reducible exact ti_)
    ·refine qm (i + 1) [0,1,2] ⟨⟨by omega,by rw [hn]⟩,by omega⟩ rfl (by simp) ?_ ?_ ?_<;>simp only [hn]<;>(try refine ev_ ?_)<;>(try with_reducible exact ti_)<;>(try simp (disch:=omega) only [qb,and_true,true_and])
     all_goals rw [qbb (by omega) (by omega),Int.natCast_add];rfl
    ·exfalso;omega
   ·have hT:typA (appR t (s.getD i R0).ty) = .tup [encY (appR t (s.getD i R0).ty).1,.int .i64 (appR t (s.getD i R0).ty).2]:=rfl
    have had:decide ((appR t (s.getD i R0).ty).2 = 0) = false:=decide_eq_false ha
    rw [ql4 hlt h0 ha]
    repeat' (first | refine vs_ ?_ | ((first | refine vr_ ?_ | fail)<;>(try simp (disch:=first | omega | (simp only [List.length_set,List.length_append,List.length_cons,List.length_nil];done) | (simp only [List.length_set,List.length_append,List.length_cons,List.length_nil];omega)) only [hp,qb,had,go_sem,↓reduceIte])) | ((first | simp (disch:=omega) only [hp] | simp (disch:=omega) only [hT] | (refine cs_ ?_ ?_<;>intro hc) | refine cj_ ?_ | simp (disch:=omega) only [encs_getN,qb] | refine qbl 1 (hA _ hm.1 hm.2) ?_ rfl rfl (by simp) rfl (qrr 0 _))<;>(try refine ev_ ?_)) | with_reducible exact ti_)
    all_goals try (exfalso;omega)
    all_goals
     rw [newQ,if_neg ha]
     exact ⟨rfl,rfl⟩


section
variable {L:List Ent} {Q:List Ent->VO->Prop} {s t:List Pr}
theorem qbcj {l:List Pr} (hs:smlR l) (hl:l.length≤100000) (hq:Q (L ++ [subE (newR l)]) (.val (.ptr L.length 0))):VApp Tryz.prog L (.fn 39 [] []) [.sl 4 (qbq l)] Q :=
 qg8 (qns hs hl) rfl (by simp only [AV.bds,AV.bd,qda,Bool.and_true]) hq
theorem qtj (a b:Nat) (hs:okS s) (ht:okS t) (h1:s.length≤40000) (h2:t.length≤40000) (hab:a≠b) (hq:if (behR s t).2 = 0 then Q (L ++ [subE (behR s t).1]) (.val (.tup [.ptr L.length 0,.int .i64 0])) else Q L (.val (.tup [.nilp,.int .i64 (behR s t).2])))
 (h0:ent L a = subE s:=by rfl) (h0':ent L b = subE t:=by rfl) (ha:a < L.length:=by simp) (hb:b < L.length:=by simp):VApp Tryz.prog L (.fn 71 [] []) [.ptr a 0,.ptr b 0] Q:=by
 refine qbs ?_
 rw [List.nil_append,List.append_nil]
 refine q9 [a,b] (q54 hs ht h1 h2) (by simp [hab]) ⟨⟨ha,rfl,by rw [h0];rfl⟩,⟨hb,rfl,by rw [h0'];rfl⟩,trivial⟩ rfl (by rfl) fun H1 o ho=>?_
 have e0:(L.set a (subE s)).set b (subE t) = L:=by
  rw [qbp h0 ha,qbp h0' hb]
 rw [newQ] at ho
 split at ho
 ·rename_i he
  rw [if_pos he] at hq
  obtain ⟨rfl,rfl⟩:=ho
  have e1:qdm L [a,b] ([subE s,subE t] ++ [subE (behR s t).1]) = L ++ [subE (behR s t).1]:=by
   show ((L.set a (subE s)).set b (subE t)) ++ [subE (behR s t).1] = _
   rw [e0]
  rw [e1]
  show Q _ (.val (.tup [.ptr (L.length + (2 - 2)) 0,.int .i64 0]))
  exact hq
 ·rename_i he
  rw [if_neg he] at hq
  obtain ⟨rfl,rfl⟩:=ho
  have e1:qdm L [a,b] [subE s,subE t] = L:=by
   show ((L.set a (subE s)).set b (subE t)) ++ [] = _
   rw [e0,List.append_nil]
  rw [e1]
  exact hq
theorem qo {f:FuncId} {e e':Ent} {rest:List AV} {r:AV} (i:Nat) (h:VM Tryz.prog f e e' (.ptr 0 0 :: rest) r) (hrest:AV.bds 0 rest = true) (hr:r.bd 0 = true) (hq:Q (L.set i e') (.val r)) (hb:e.bd 0 = true:=by rfl) (hb':e'.bd 0 = true:=by rfl) (hi:i < L.length:=by simp) (he:ent L i = e:=by rfl) :
 VApp Tryz.prog L (.fn f [] []) (.ptr i 0 :: rest) Q:=by
 refine qbl i h hq hb hb' hi he hr ?_ ?_
 ·rw [List.append_nil,AV.rens,ql (m:=0) (fun j hj=>by omega) rest hrest];rfl
 ·rw [AV.bds,Bool.and_eq_true]
  exact ⟨rfl,qcj (Nat.zero_le _) _ hrest⟩
theorem qxb {l:List Pr} (hs:smlR l) (hl:l.length≤100000) (e:newR l = s) (hq:Q (L ++ [subE s]) (.val (.ptr L.length 0))):VApp Tryz.prog L (.fn 39 [] []) [.sl 4 (qbq l)] Q:=by
 subst e;exact qbcj hs hl hq
theorem q0u (a b:Nat) {r:List Pr} (hs:okS s) (ht:okS t) (h1:s.length≤40000) (h2:t.length≤40000) (hab:a≠b) (he:behR s t = (r,0)) (hq:Q (L ++ [subE r]) (.val (.tup [.ptr L.length 0,.int .i64 0])))
 (h0:ent L a = subE s:=by rfl) (h0':ent L b = subE t:=by rfl) (ha:a < L.length:=by simp) (hb:b < L.length:=by simp):VApp Tryz.prog L (.fn 71 [] []) [.ptr a 0,.ptr b 0] Q:=by
 refine qtj a b hs ht h1 h2 hab ?_ h0 h0' ha hb
 rw [he,if_pos rfl]
 exact hq
theorem qzm (a b:Nat) {r:List Pr} {e:Int} (hs:okS s) (ht:okS t) (h1:s.length≤40000) (h2:t.length≤40000) (hab:a≠b) (he:behR s t = (r,e)) (hne:e≠0) (hq:Q L (.val (.tup [.nilp,.int .i64 e])))
 (h0:ent L a = subE s:=by rfl) (h0':ent L b = subE t:=by rfl) (ha:a < L.length:=by simp) (hb:b < L.length:=by simp):VApp Tryz.prog L (.fn 71 [] []) [.ptr a 0,.ptr b 0] Q:=by
 refine qtj a b hs ht h1 h2 hab ?_ h0 h0' ha hb
 rw [he,if_neg hne]
 exact hq
theorem qir (hs:okS s) (hl:s.length≤100000) {ty:Ty} (q1:szY ty≤20000) (q2:dpY ty≤300):VM Tryz.prog 53 (subE s) (subE s) [.ptr 0 0,encY ty] (typA (appR s ty)) :=
 qpk (b:=true) (R:=bunR (subH s)) (fun v=>qr5 hs.1 hl v) hs q1 q2
end
def wT:Ty:=⟨[84],0,[]⟩
def wU:Ty:=⟨[85],0,[]⟩
def wV:Ty:=⟨[86],0,[]⟩
def wB:Ty:=⟨[],1,[]⟩
def wR:Ty:=⟨[45,62],0,[wT,wB]⟩
def S1:List Pr:=[⟨0,wT⟩]
def S2:List Pr:=[⟨0,wT⟩,⟨1,Y0⟩]
def S3:List Pr:=[⟨0,wV⟩]
def S4:List Pr:=[⟨0,wT⟩,⟨1,wV⟩]
theorem w1:newR [⟨0,wT⟩,⟨0,wU⟩] = S1:=by rfl
theorem w3:newR [⟨0,wV⟩] = S3:=by rfl
theorem S1_ok:okS S1:=w1 ▸ qkc _
theorem qbzz:okS S3:=w3 ▸ qkc _
theorem w2:setR S1 1 Y0 = (S2,0):=by rfl
theorem qbby:okS S2:=by have:=qqo S1_ok 1 Y0;rwa [w2] at this
theorem w4:behR S2 S3 = (S4,0):=by rfl
theorem S4_ok:okS S4:=by have:=qym qbby qbzz;rwa [w4] at this
theorem k1:VM Tryz.prog 69 (subE S1) (subE S1) [.ptr 0 0,.int .i64 0,encY wT] (.int .i64 6):=qht S1_ok.1 (by decide) 0 (t:=wT) (by decide) (by decide)
theorem k2:VM Tryz.prog 69 (subE S1) (subE S2) [.ptr 0 0,.int .i64 1,encY Y0] (.int .i64 0):=qht S1_ok.1 (by decide) 1 (t:=Y0) (by decide) (by decide)
theorem k4:VM Tryz.prog 123 (subE S4) (subE S4) [.ptr 0 0,.int .i64 1] (.tup [encY wV,.bool true]):=qr5 S4_ok.1 (by decide) 1
theorem k5:VM Tryz.prog 81 (subE S2) (subE S2) [.ptr 0 0] (.sl 4 (qbq S2)):=qea (by decide) (qfk qbby)
theorem w6:qbrl [1] S2 = [⟨1,Y0⟩]:=by rfl
theorem k6:VM Tryz.prog 81 (subE [⟨1,Y0⟩]) (subE [⟨1,Y0⟩]) [.ptr 0 0] (.sl 4 (qbq [⟨1,Y0⟩])):=qea (by decide) (qfk (by have:=q2o qbby [1];rwa [w6] at this))
theorem k7:qi Tryz.prog 38 [encY wR] (.str [84,32,45,62,32,98]):=qlp (t:=wR) (by decide) (by decide) (by decide)
end Go.Proofs.YtkenggenkmfopaaGreat
