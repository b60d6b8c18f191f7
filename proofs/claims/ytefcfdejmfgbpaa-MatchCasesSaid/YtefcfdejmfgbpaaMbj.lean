/- Texts of this proof, joined. -/
import Derived.Test.YtefcfdejmfgbpaaMaq
import Derived.Test.YtefcfdejmfgbpaaMbc
import Derived.Test.YtefcfdejmfgbpaaMbg
import Derived.Test.YtefcfdejmfgbpaaMbi
set_option linter.unusedVariables false
set_option linter.unusedSimpArgs false

/- matching: the program's walk -/
set_option maxRecDepth 4000
namespace Go.Proofs.Ytefcfdejmfgbpaa
open Go Go.RowKit Go.V

theorem qgg {a:Ty} (b:Ty) (h1:szY a≤20000) (h2:dpY a≤300):qo Try.prog 42 [encY a,encY b] (.bool (qi a)):=by
 refine qj c0h (by simp) (by simp only [go_sem]) rfl fun hw=>?_
 have hL:=qcc h1 h2
 repeat' (first | refine vs_ ?_ | ((first | refine vr_ ?_ | refine qa hL fun _=>?_ | (refine cs_ ?_ ?_<;>intro hc) | refine cj_ ?_ | fail)<;>(try refine ev_ ?_)) | with_reducible exact ti_)
theorem qxy {l:List Ty} {i:Nat} (h:i < l.length):(l.drop i).all qi = (qi (l.getD i Y0) && (l.drop (i + 1)).all qi):=by rw [qiw h];rfl
theorem qnz {l:List Ty} (hs:∀ x∈l,szY x≤20000∧dpY x≤300):qo Try.prog 29 [.sl 3 (qn l),.sl 3 (qn l),.fn 42 [] []] (.bool (l.all qi)):=by
 refine qj c0i (by simp) (by simp only [go_sem]) rfl fun hw=>?_
 have hl:l.length≤maxLen:=by have:=hw.1.1;rwa [qbh] at this
 repeat' (first | refine vs_ ?_ | ((first | refine vr_ ?_ | (refine cs_ ?_ ?_<;>intro hc) | refine cj_ ?_ | simp (disch:=omega) only [encs_getN,qc])<;>(try refine ev_ ?_)) | with_reducible exact ti_)
 refine qbi (S:=Nat) (fun i=>i≤l.length∧(l.drop i).all qi = l.all qi) (fun i=>(⟨[(0,.sl 3 (qn l)),(1,.sl 3 (qn l)),(2,.fn 42 [] []),(14,.int .i64 l.length),(15,.int .i64 i)],[]⟩,[])) (fun i=>l.length - i) ?_ fun i hi=>?_
 ·refine qu 0 [] ⟨Nat.zero_le _,rfl⟩ rfl (by simp) ?_ ?_ ?_<;>(try refine ev_ ?_)<;>(try with_reducible exact ti_)<;>(try simp (disch:=omega) only [qc,and_true,true_and])
 ·obtain ⟨hi,ha⟩:=hi
  by_cases hlt:i < l.length
  ·have hx:=hs _ (qb5 hlt)
   rw [qxy hlt] at ha
   repeat' (first | refine vs_ ?_ | ((first | refine vr_ ?_ | fail)<;>(try simp (disch:=first | omega | (simp only [List.length_set,List.length_append,List.length_cons,List.length_nil];done) | (simp only [List.length_set,List.length_append,List.length_cons,List.length_nil];omega)) only [qbp,qc,go_sem,↓reduceIte])) | ((first | (refine cs_ ?_ ?_<;>intro hc) | refine cj_ ?_ | simp (disch:=omega) only [encs_getN,qc] | refine qa (qgg _ hx.1 hx.2) fun _=>?_ | refine qd (qgg _ hx.1 hx.2) ?_)<;>(try refine ev_ ?_)) | with_reducible exact ti_)
   ·rw [← ha,hc];rfl
   ·refine qu (i + 1) [] ⟨⟨by omega,by rw [← ha,hc,Bool.true_and]⟩,by omega⟩ rfl (by simp) ?_ ?_ ?_<;>(try refine ev_ ?_)<;>(try with_reducible exact ti_)<;>(try simp (disch:=omega) only [qc,and_true,true_and])
   ·exfalso;omega
  ·rw [List.drop_of_length_le (by omega)] at ha
   repeat' (first | refine vs_ ?_ | ((first | refine vr_ ?_ | (refine cs_ ?_ ?_<;>intro hc) | refine cj_ ?_ | simp (disch:=omega) only [encs_getN,qc])<;>(try refine ev_ ?_)) | with_reducible exact ti_)
   all_goals first | (exfalso;omega) | (rw [← ha];rfl)
theorem qhb {l:List Ty} (hs:∀ x∈l,szY x≤20000∧dpY x≤300):qo Try.prog 28 [.sl 3 (qn l)] (.bool (l.all qi)):=by
 refine qj c0j (by simp) (by simp only [go_sem]) rfl fun hw=>?_
 have hb:=qnz hs
 repeat' (first | refine vs_ ?_ | ((first | refine vr_ ?_ | refine qa hb fun _=>?_ | (refine cs_ ?_ ?_<;>intro hc) | refine cj_ ?_ | fail)<;>(try refine ev_ ?_)) | with_reducible exact ti_)

/-! patterns that are let be types -/
abbrev capE:AV:=.eptr 1 [.ptr 0 0] 0 0
def okO (s:List Pr) (k:Nat) (b:Ty):Prop:=okS s∧s.length + k≤100000∧szY b≤20000∧dpY b≤300
def onVM (a b:Ty) (s:List Pr):Prop:=VM Try.prog 31 (subE s) (subE (onP a b s).1) [.ptr 0 0,encY a,encY b] (.bool (onP a b s).2)
theorem qbeb {a b:Ty} {s:List Pr} (h:onVM a b s):VM Try.prog 44 (subE s) (subE (onP a b s).1) [encY a,encY b,capE] (.bool (onP a b s).2):=by
 refine qh c0k 1 (by simp) (by simp) ?_
 repeat' (first | refine vs_ ?_ | ((first | refine vr_ ?_ | refine qbj 0 h ?_ | (refine cs_ ?_ ?_<;>intro hc) | refine cj_ ?_ | fail)<;>(try refine ev_ ?_)) | with_reducible exact ti_)
theorem q52 {a b:Ty} {s:List Pr} (h:onVM a b s):VM Try.prog 30 (subE s) (subE (onP a b s).1) [encY a,encY b,capE] (.bool (onP a b s).2):=by
 refine qh c0l 1 (by simp) (by simp) ?_
 repeat' (first | refine vs_ ?_ | ((first | refine vr_ ?_ | refine qbj 0 h ?_ | (refine cs_ ?_ ?_<;>intro hc) | refine cj_ ?_ | fail)<;>(try refine ev_ ?_)) | with_reducible exact ti_)
def onsI (l m:List Ty) (s:List Pr) (x:Nat×List Pr):Prop:=x.1≤l.length∧onPs (l.drop x.1) (m.drop x.1) x.2 = onPs l m s∧okS x.2∧x.2.length + szYs (l.drop x.1)≤100000
theorem qhi {f:FuncId} {l m:List Ty} {s:List Pr} (hf:∀ a∈l,∀ b s,okO s (szY a) b->VM Try.prog f (subE s) (subE (onP a b s).1) [encY a,encY b,capE] (.bool (onP a b s).2)) (ho:okS s) (hs:s.length + szYs l≤100000) (hm:∀ b∈m,szY b≤20000∧dpY b≤300) :
 VM Try.prog 29 (subE s) (subE (qfw l m s).1) [.sl 3 (qn l),.sl 3 (qn m),.fn f [] [capE]] (.bool (qfw l m s).2):=by
 refine qe2 (by kernel_rfl) fun hw=>?_
 have hl:l.length≤maxLen:=by have:=hw.1.1;rwa [qbh] at this
 have hml:m.length≤maxLen:=by have:=hw.2.1.1;rwa [qbh] at this
 refine qh c0i 1 (by simp) (by simp) ?_
 by_cases hlm:l.length = m.length
 ·rw [qfw,if_pos hlm]
  have hlmi:(l.length:Int) = m.length:=by omega
  repeat' (first | refine vs_ ?_ | ((first | refine vr_ ?_ | fail)<;>(try simp only [hlmi,go_sem,↓reduceIte])) | ((first | (refine cs_ ?_ ?_<;>intro hc) | refine cj_ ?_ | simp (disch:=omega) only [encs_getN,qc])<;>(try refine ev_ ?_)) | with_reducible exact ti_)
  refine qbi (S:=Nat×List Pr) (onsI l m s) (fun x=>(⟨[(0,.sl 3 (qn l)),(1,.sl 3 (qn m)),(2,.fn f [] [capE]),(14,.int .i64 l.length),(15,.int .i64 x.1)],[]⟩,[subE x.2])) (fun x=>l.length - x.1) ?_ fun x hx=>?_
  ·refine qu (0,s) [0] ⟨Nat.zero_le _,rfl,ho,hs⟩ rfl (by simp) ?_ ?_ ?_<;>(try refine ev_ ?_)<;>(try with_reducible exact ti_)<;>(try simp (disch:=omega) only [qc,and_true,true_and])
   rw [hlmi]
  ·obtain ⟨i,s1⟩:=x
   obtain ⟨hi,ha,ho1,hs1⟩:=hx
   dsimp only at hi ha ho1 hs1
   by_cases hlt:i < l.length
   ·have hmt:i < m.length:=by omega
    have hb:=hm _ (qb5 hmt)
    rw [qty hlt hmt] at ha
    rw [qiw hlt,szYs] at hs1
    have hon:=hf _ (qb5 hlt) (m.getD i Y0) s1 ⟨ho1,by omega,hb.1,hb.2⟩
    have hok:=q0b (l.getD i Y0) (m.getD i Y0) s1 ho1
    repeat' (first | refine vs_ ?_ | ((first | refine vr_ ?_ | fail)<;>(try simp (disch:=first | omega | (simp only [List.length_set,List.length_append,List.length_cons,List.length_nil];done) | (simp only [List.length_set,List.length_append,List.length_cons,List.length_nil];omega)) only [qbp,qc,go_sem,↓reduceIte])) | ((first | (refine cs_ ?_ ?_<;>intro hc) | refine cj_ ?_ | simp (disch:=omega) only [encs_getN,qc] | refine qvz 0 hon ?_)<;>(try refine ev_ ?_)) | with_reducible exact ti_)
    ·rw [hc,if_neg (by simp)] at ha;rw [← ha];exact ⟨rfl,rfl⟩
    ·rw [hc,if_pos rfl] at ha
     refine qu (i + 1,(onP (l.getD i Y0) (m.getD i Y0) s1).1) [0] ⟨⟨by dsimp only;omega,ha,hok.1,by dsimp only;omega⟩,by dsimp only;omega⟩ rfl (by simp) ?_ ?_ ?_<;>(try refine ev_ ?_)<;>(try with_reducible exact ti_)<;>(try simp (disch:=omega) only [qc,and_true,true_and])
    ·exfalso;omega
   ·rw [qzf (by omega)] at ha
    repeat' (first | refine vs_ ?_ | ((first | refine vr_ ?_ | (refine cs_ ?_ ?_<;>intro hc) | refine cj_ ?_ | simp (disch:=omega) only [encs_getN,qc])<;>(try refine ev_ ?_)) | with_reducible exact ti_)
    all_goals first | (exfalso;omega) | (rw [← ha];exact ⟨rfl,rfl⟩)
 ·rw [qfw,if_neg hlm]
  have hlmi:¬ (l.length:Int) = m.length:=by omega
  repeat' (first | refine vs_ ?_ | ((first | refine vr_ ?_ | fail)<;>(try simp only [hlmi,go_sem,↓reduceIte])) | ((first | (refine cs_ ?_ ?_<;>intro hc) | refine cj_ ?_ | simp (disch:=omega) only [encs_getN,qc])<;>(try refine ev_ ?_)) | with_reducible exact ti_)
theorem qya:∀ p t s,okO s (szY p) t->onVM p t s:=by
 refine Ty.ind fun p ih t s ho=>?_
 obtain ⟨h1,h2,h3,h4⟩:=ho
 have hpp:=qvs p
 unfold onVM
 refine qh c0m 1 (by simp) (by simp) ?_
 rw [qbfl]
 unfold k0m
 refine qb1 (qem ?_)
 (refine ev_ ?_;(try with_reducible exact ti_))
 refine qog 1 3 0 0 rfl rfl ?_
 simp only [go_sem]
 have hG:=qk3 (s:=s) h1.1 (by omega) p.var
 have hS:=qki (s:=s) h1.1 (by omega) p.var h3 h4
 by_cases hc:p.con = []
 ·simp only [if_pos hc]
  cases hlk:qp p.var s with
  | some u =>
    have hv:getV s p.var = .tup [encY u,.bool true]:=by rw [getV,hlk];rfl
    rw [hv] at hG
    repeat' (first | refine vs_ ?_ | ((first | refine vr_ ?_ | fail)<;>(try simp only [hc,go_sem,↓reduceIte])) | ((first | (refine cs_ ?_ ?_<;>intro hc) | refine cj_ ?_ | fail | refine qkz 0 hG rfl (by simp only [AV.bd,AV.bds,qbd,Bool.and_true]) ?_ | refine qa (qqm _ _) fun _=>?_)<;>(try refine ev_ ?_)) | with_reducible exact ti_)
  | none =>
    have hv:getV s p.var = .tup [encY Y0,.bool false]:=by rw [getV,hlk];rfl
    rw [hv] at hG
    repeat' (first | refine vs_ ?_ | ((first | refine vr_ ?_ | fail)<;>(try simp only [hc,go_sem,↓reduceIte])) | ((first | (refine cs_ ?_ ?_<;>intro hc) | refine cj_ ?_ | fail | refine qkz 0 hG rfl (by simp only [AV.bd,AV.bds,qbd,Bool.and_true]) ?_ | refine qkz 0 hS (by simp only [AV.bd,AV.bds,qbd,Bool.and_true]) rfl ?_)<;>(try refine ev_ ?_)) | with_reducible exact ti_)
 ·simp only [if_neg hc]
  by_cases hct:p.con = t.con
  ·have hb:=qhi (f:=44) (l:=p.args) (m:=t.args) (s:=s) (fun a ha b s' h=>qbeb (ih a ha b s' h)) h1 (by rw [qhr] at h2;omega) (fun b hb=>by
    have q1:=qk1 hb
    have q2:=qnu hb
    rw [qhr] at h3
    rw [qsa] at h4
    omega)
   have e0:(if p.args.length = t.args.length then onPs p.args t.args s else (s,false)) = qfw p.args t.args s:=rfl
   have hcT:¬ t.con = []:=hct ▸ hc
   simp only [if_pos hct,e0]
   repeat' (first | refine vs_ ?_ | ((first | refine vr_ ?_ | fail)<;>(try simp only [hc,hct,hcT,go_sem,↓reduceIte])) | ((first | (refine cs_ ?_ ?_<;>intro hc) | refine cj_ ?_ | fail | refine qbj 0 hb ?_)<;>(try refine ev_ ?_)) | with_reducible exact ti_)
  ·simp only [if_neg hct]
   repeat' (first | refine vs_ ?_ | ((first | refine vr_ ?_ | fail)<;>(try simp only [hc,hct,go_sem,↓reduceIte])) | ((first | (refine cs_ ?_ ?_<;>intro hc) | refine cj_ ?_ | fail)<;>(try refine ev_ ?_)) | with_reducible exact ti_)
set_option maxRecDepth 4000

def smlY (l:List Ty):Prop:=∀ x∈l,szY x≤20000∧dpY x≤300
theorem qut {l m:List Ty} (hl:smlY l) (hm:smlY m) (h20:l.length≤20):VCalls Try.prog 17 [] [.sl 3 (qn l),.sl 3 (qn m)] (newQ [] (allP l m)):=by
 have L1:=qhb hl
 have L2:=qhb hm
 by_cases h1:l.all qi = true
 ·by_cases h2:m.all qi = true
  ·rw [h1] at L1
   rw [h2] at L2
   have hs:=qr9 h1 h20
   have hb:=qhi (f:=30) (l:=l) (m:=m) (s:=[]) (fun a ha b s' h=>q52 (qya a b s' h)) qf5 (by rw [List.length_nil];omega) hm
   rw [allP,if_pos ⟨h1,h2⟩]
   cases hq:(qfw l m []).2 with
   | true =>
     rw [hq] at hb
     rw [if_pos rfl]
     refine qh c0d 1 (by simp) (by simp) ?_
     unfold k0d
     refine qb1 (qem ?_)
     (refine ev_ ?_;(try with_reducible exact ti_))
     refine qc1 (S:=Unit) (fun _=>True) (fun _=>(⟨[(0,.sl 3 (qn l)),(1,.sl 3 (qn m))],[]⟩,[])) ?_ fun _ _=>?_
     ·repeat' (first | refine vs_ ?_ | ((first | refine vr_ ?_ | refine qa L1 fun _=>?_ | refine qa L2 fun _=>?_ | (refine cs_ ?_ ?_<;>intro hc) | refine cj_ ?_ | fail)<;>(try refine ev_ ?_)) | with_reducible exact ti_)
      refine qu () [] trivial rfl (by simp) ?_ ?_ ?_<;>(try refine ev_ ?_)<;>(try with_reducible exact ti_)<;>(try simp (disch:=omega) only [qc,and_true,true_and])
     refine qc1 (S:=Unit) (fun _=>True) (fun _=>(⟨[(0,.sl 3 (qn l)),(1,.sl 3 (qn m)),(6,.ptr 1 0)],[]⟩,[subE [],.blk [.ptr 0 0]])) ?_ fun _ _=>?_
     ·repeat' (first | refine vs_ ?_ | ((first | refine vr_ ?_ | refine qk8 qo9 rfl rfl ?_ | (refine cs_ ?_ ?_<;>intro hc) | refine cj_ ?_ | fail)<;>(try refine ev_ ?_)) | with_reducible exact ti_)
      refine qu () [0,1] trivial rfl (by simp) ?_ ?_ ?_<;>(try refine ev_ ?_)<;>(try with_reducible exact ti_)<;>(try simp (disch:=omega) only [qc,and_true,true_and])
     refine qog 1 6 0 0 rfl rfl ?_
     simp only [go_sem]
     repeat' (first | refine vs_ ?_ | ((first | refine vr_ ?_ | refine qbj 0 hb ?_ | (refine cs_ ?_ ?_<;>intro hc) | refine cj_ ?_ | fail)<;>(try refine ev_ ?_)) | with_reducible exact ti_)
     rw [newQ,if_pos rfl];exact ⟨rfl,rfl⟩
   | false =>
     rw [hq] at hb
     rw [if_neg (by simp)]
     refine qh c0d 0 (by simp) (by simp) ?_
     unfold k0d
     refine qb1 (qem ?_)
     (refine ev_ ?_;(try with_reducible exact ti_))
     refine qc1 (S:=Unit) (fun _=>True) (fun _=>(⟨[(0,.sl 3 (qn l)),(1,.sl 3 (qn m))],[]⟩,[])) ?_ fun _ _=>?_
     ·repeat' (first | refine vs_ ?_ | ((first | refine vr_ ?_ | refine qa L1 fun _=>?_ | refine qa L2 fun _=>?_ | (refine cs_ ?_ ?_<;>intro hc) | refine cj_ ?_ | fail)<;>(try refine ev_ ?_)) | with_reducible exact ti_)
      refine qu () [] trivial rfl (by simp) ?_ ?_ ?_<;>(try refine ev_ ?_)<;>(try with_reducible exact ti_)<;>(try simp (disch:=omega) only [qc,and_true,true_and])
     refine qc1 (S:=Unit) (fun _=>True) (fun _=>(⟨[(0,.sl 3 (qn l)),(1,.sl 3 (qn m)),(6,.ptr 1 0)],[]⟩,[subE [],.blk [.ptr 0 0]])) ?_ fun _ _=>?_
     ·repeat' (first | refine vs_ ?_ | ((first | refine vr_ ?_ | refine qk8 qo9 rfl rfl ?_ | (refine cs_ ?_ ?_<;>intro hc) | refine cj_ ?_ | fail)<;>(try refine ev_ ?_)) | with_reducible exact ti_)
      refine qu () [0,1] trivial rfl (by simp) ?_ ?_ ?_<;>(try refine ev_ ?_)<;>(try with_reducible exact ti_)<;>(try simp (disch:=omega) only [qc,and_true,true_and])
     refine qog 1 6 0 0 rfl rfl ?_
     simp only [go_sem]
     repeat' (first | refine vs_ ?_ | ((first | refine vr_ ?_ | refine qbj 0 hb ?_ | (refine cs_ ?_ ?_<;>intro hc) | refine cj_ ?_ | fail)<;>(try refine ev_ ?_)) | with_reducible exact ti_)
     rw [newQ,if_neg (by simp)];exact ⟨rfl,rfl⟩
  ·have h2:m.all qi = false:=by simpa using h2
   rw [h1] at L1
   rw [h2] at L2
   rw [allP,if_neg (by simp [h2])]
   refine qh c0d 0 (by simp) (by simp) ?_
   repeat' (first | refine vs_ ?_ | ((first | refine vr_ ?_ | refine qa L1 fun _=>?_ | refine qa L2 fun _=>?_ | (refine cs_ ?_ ?_<;>intro hc) | refine cj_ ?_ | fail)<;>(try refine ev_ ?_)) | with_reducible exact ti_)
   rw [newQ,if_neg (by simp)];exact ⟨rfl,rfl⟩
 ·have h1:l.all qi = false:=by simpa using h1
  rw [h1] at L1
  rw [allP,if_neg (by simp [h1])]
  refine qh c0d 0 (by simp) (by simp) ?_
  repeat' (first | refine vs_ ?_ | ((first | refine vr_ ?_ | refine qa L1 fun _=>?_ | (refine cs_ ?_ ?_<;>intro hc) | refine cj_ ?_ | fail)<;>(try refine ev_ ?_)) | with_reducible exact ti_)
  rw [newQ,if_neg (by simp)];exact ⟨rfl,rfl⟩
section
variable {L:List Ent} {Q:List Ent->VO->Prop} {s:List Pr}
theorem qp7 {f:FuncId} {args:List AV} {q:List Pr×Int} (h:VCalls Try.prog f [] args (newQ [] q)) (ha:AV.bds 0 args = true) (hq:if q.2 = 0 then Q (L ++ [subE q.1]) (.val (.tup [.ptr L.length 0,.int .i64 0])) else Q L (.val (.tup [.nilp,.int .i64 q.2]))):VApp Try.prog L (.fn f [] []) args Q:=by
 refine qcq ?_
 rw [List.nil_append,List.append_nil]
 refine qbv [] h (by simp) trivial ha (qm (m:=0) (fun i hi=>by omega) _ ha).symm fun H1 o ho=>?_
 rw [newQ] at ho
 split at ho
 ·rename_i he
  rw [if_pos he] at hq
  obtain ⟨rfl,rfl⟩:=ho
  show Q _ (.val (.tup [.ptr (L.length + (0 - 0)) 0,.int .i64 0]))
  exact hq
 ·rename_i he
  rw [if_neg he] at hq
  obtain ⟨rfl,rfl⟩:=ho
  have e1:qiu L [] [] = L:=by
   show L ++ [] = _
   rw [List.append_nil]
  rw [e1]
  exact hq
theorem qn7 {f:FuncId} {args:List AV} {q:List Pr×Int} (h:VCalls Try.prog f [] args (newQ [] q)) (ha:AV.bds 0 args = true) (he:q = (s,0)) (hq:Q (L ++ [subE s]) (.val (.tup [.ptr L.length 0,.int .i64 0]))):VApp Try.prog L (.fn f [] []) args Q :=
 qp7 h ha (by subst he;rw [if_pos rfl];exact hq)
theorem qnc {f:FuncId} {args:List AV} {q:List Pr×Int} {e:Int} (h:VCalls Try.prog f [] args (newQ [] q)) (ha:AV.bds 0 args = true) (he:q = (s,e)) (hne:e≠0) (hq:Q L (.val (.tup [.nilp,.int .i64 e]))):VApp Try.prog L (.fn f [] []) args Q :=
 qp7 h ha (by subst he;rw [if_neg hne];exact hq)
end
theorem qu4 {t:Ty} (h1:szY t≤20000) (h2:dpY t≤300):smlY [t]:=fun x hx=>by rw [List.mem_singleton] at hx;subst hx;exact ⟨h1,h2⟩
theorem qet {p t:Ty} (h1:szY p≤20000) (h2:dpY p≤300) (h3:szY t≤20000) (h4:dpY t≤300):VCalls Try.prog 10 [] [encY p,encY t] (newQ [] (matP p t)):=by
 have hA:=qut (qu4 h1 h2) (qu4 h3 h4) (by simp)
 have hb:AV.bds 0 [.sl 3 (qn [p]),.sl 3 (qn [t])] = true:=by simp only [AV.bds,AV.bd,qb0,Bool.and_true]
 have hm:matP p t = allP [p] [t]:=rfl
 rw [hm]
 generalize allP [p] [t] = q at hA ⊢
 obtain ⟨q1,e⟩:=q
 by_cases he:e = 0
 ·subst he
  refine qh c0e 1 (by simp) (by simp) ?_
  unfold k0e
  refine qb1 (qem ?_)
  (refine ev_ ?_;(try with_reducible exact ti_))
  refine qc1 (S:=Unit) (fun _=>True) (fun _=>(⟨[(4,.ptr 0 0),(5,.int .i64 0)],[]⟩,[subE q1])) ?_ fun _ _=>?_
  ·repeat' (first | refine vs_ ?_ | ((first | refine vr_ ?_ | refine qn7 hA hb rfl ?_ | (refine cs_ ?_ ?_<;>intro hc) | refine cj_ ?_ | fail)<;>(try refine ev_ ?_)) | with_reducible exact ti_)
   refine qu () [2] trivial rfl (by simp) ?_ ?_ ?_<;>(try refine ev_ ?_)<;>(try with_reducible exact ti_)<;>(try simp (disch:=omega) only [qc,and_true,true_and])
  ·repeat' (first | refine vs_ ?_ | ((first | refine vr_ ?_ | (refine cs_ ?_ ?_<;>intro hc) | refine cj_ ?_ | fail)<;>(try refine ev_ ?_)) | with_reducible exact ti_)
   rw [newQ,if_pos rfl];exact ⟨rfl,rfl⟩
 ·refine qh c0e 0 (by simp) (by simp) ?_
  repeat' (first | refine vs_ ?_ | ((first | refine vr_ ?_ | refine qnc hA hb rfl he ?_ | (refine cs_ ?_ ?_<;>intro hc) | refine cj_ ?_ | fail)<;>(try refine ev_ ?_)) | with_reducible exact ti_)
  rw [newQ,if_neg he];exact ⟨rfl,rfl⟩
theorem qbl {p t:Ty} (h1:szY p≤20000) (h2:dpY p≤300) (h3:szY t≤20000) (h4:dpY t≤300):qo Try.prog 8 [encY p,encY t] (.bool (abvP p t)):=by
 have hM:=qet h1 h2 h3 h4
 have hb:AV.bds 0 [encY p,encY t] = true:=by simp only [AV.bds,AV.bd,qbd,Bool.and_true]
 refine qj c0f (by simp) (by simp only [go_sem]) rfl fun hw=>?_
 have hv:abvP p t = decide ((matP p t).2 = 0):=rfl
 rw [hv]
 generalize matP p t = q at hM ⊢
 obtain ⟨q1,e⟩:=q
 by_cases he:e = 0
 ·subst he
  repeat' (first | refine vs_ ?_ | ((first | refine vr_ ?_ | refine qn7 hM hb rfl ?_ | (refine cs_ ?_ ?_<;>intro hc) | refine cj_ ?_ | fail)<;>(try refine ev_ ?_)) | with_reducible exact ti_)
 ·have hd:decide (e = 0) = false:=decide_eq_false he
  repeat' (first | refine vs_ ?_ | ((first | refine vr_ ?_ | fail)<;>(try simp only [hd,go_sem,↓reduceIte])) | ((first | (refine cs_ ?_ ?_<;>intro hc) | refine cj_ ?_ | fail | refine qnc hM hb rfl he ?_)<;>(try refine ev_ ?_)) | with_reducible exact ti_)
theorem qg6 {p t:Ty} (h1:szY p≤20000) (h2:dpY p≤300) (h3:szY t≤20000) (h4:dpY t≤300):qo Try.prog 13 [encY p,encY t] (.bool (abvP p t && abvP t p)):=by
 refine qj c0g (by simp) (by simp only [go_sem]) rfl fun hw=>?_
 have f1:=qbl h1 h2 h3 h4
 have f2:=qbl h3 h4 h1 h2
 cases hq:abvP p t with
 | true =>
   rw [hq] at f1
   repeat' (first | refine vs_ ?_ | ((first | refine vr_ ?_ | refine qa f1 fun _=>?_ | refine qa f2 fun _=>?_ | (refine cs_ ?_ ?_<;>intro hc) | refine cj_ ?_ | fail)<;>(try refine ev_ ?_)) | with_reducible exact ti_)
 | false =>
   rw [hq] at f1
   repeat' (first | refine vs_ ?_ | ((first | refine vr_ ?_ | refine qa f1 fun _=>?_ | refine qa f2 fun _=>?_ | (refine cs_ ?_ ?_<;>intro hc) | refine cj_ ?_ | fail)<;>(try refine ev_ ?_)) | with_reducible exact ti_)
end Go.Proofs.Ytefcfdejmfgbpaa
