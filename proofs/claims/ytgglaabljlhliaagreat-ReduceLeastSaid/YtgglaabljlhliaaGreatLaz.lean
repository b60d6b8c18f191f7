/- Texts of this proof, joined. -/
import Derived.Test.YtgglaabljlhliaaGreatLay
import Derived.Test.YtgglaabljlhliaaGreatLal
set_option linter.unusedVariables false
set_option linter.unusedSimpArgs false

/- predicates: sameness, whether one is there, each once -/
set_option maxRecDepth 4000
namespace Go.Proofs.YtgglaabljlhliaaGreat
open Go Go.RowKit Go.V

def qmq (a b:Pd):Bool:=decide (a.cls = b.cls) && qe8 a.ty b.ty
theorem qrb (a b:Pd):qmq a b = true ↔ a = b:=by
 rw [qmq,Bool.and_eq_true,decide_eq_true_eq,qh6]
 cases a;cases b;simp
theorem q25 (p:Pd):AV.agg [.str p.ty.con,.int .i64 p.ty.var,.sl 3 (qx p.ty.args)] = encY p.ty:=qcr _
theorem qys (a b:Pd):qk Tryz.prog 119 [encP a,encP b] (.bool (qmq a b)):=by
 refine qd c0cp (by simp) (by simp only [go_sem]) rfl fun hw=>?_
 repeat' (first | refine vs_ ?_ | ((first | refine vr_ ?_ | refine qa (qjc _ _) fun _=>?_ | (refine cs_ ?_ ?_<;>intro hc) | refine cj_ ?_ | fail)<;>(try refine ev_ ?_)) | with_reducible exact ti_)
 all_goals simp [qmq, *]
theorem qm0 (a b:Pd):qk Tryz.prog 36 [encP a,encP b] (.bool (qmq a b)):=by
 refine qd c0cq (by simp) (by simp only [go_sem]) rfl fun hw=>?_
 repeat' (first | refine vs_ ?_ | ((first | refine vr_ ?_ | refine qa (qy3 _ _) fun _=>?_ | (refine cs_ ?_ ?_<;>intro hc) | refine cj_ ?_ | fail)<;>(try refine ev_ ?_)) | with_reducible exact ti_)
 all_goals simp [qmq, *]
abbrev pdE (p:Pd):Ent:=.blk (pdc p)
theorem qnn (p:Pd) (k:Nat):(pdE p).bd k = true:=by simp [Ent.bd,AV.bds,AV.bd,qcm]
theorem has1 (p q:Pd):VM Tryz.prog 118 (pdE p) (pdE p) [encP q,.ptr 0 0] (.bool (qmq p q)):=by
 refine qr c0cr 1 (by simp) (by simp) ?_
 repeat' (first | refine vs_ ?_ | ((first | refine vr_ ?_ | refine qa (qys _ _) fun _=>?_ | (refine cs_ ?_ ?_<;>intro hc) | refine cj_ ?_ | fail)<;>(try refine ev_ ?_)) | with_reducible exact ti_)
def idxF (g:Pd->Bool):List Pd->Int->Int
 | [],_=>-1
 | x :: r,k=>if g x = true then k else idxF g r (k + 1)
theorem q6f (g:Pd->Bool):∀ (l:List Pd) (k:Int),0≤k->decide (0≤idxF g l k) = l.any g
 | [],k,h=>by simp [idxF]
 | x :: r, k, h => by
   rw [idxF,List.any_cons]
   by_cases hx:g x = true
   ·rw [if_pos hx,hx];simp [h]
   ·rw [if_neg hx,q6f g r (k + 1) (by omega)];simp [hx]
theorem qip {f:FuncId} {p:Pd} {g:Pd->Bool} (hs:∀ q,VM Tryz.prog f (pdE p) (pdE p) [encP q,.ptr 0 0] (.bool (g q))) (l:List Pd) (hl:l.length≤maxLen) :
 VM Tryz.prog 47 (pdE p) (pdE p) [.sl 4 (qg l),.fn f [] [.ptr 0 0]] (.int .i64 (idxF g l 0)):=by
 refine qr c0cs 1 (by simp) (by simp) ?_
 repeat' (first | refine vs_ ?_ | ((first | refine vr_ ?_ | (refine cs_ ?_ ?_<;>intro hc) | refine cj_ ?_ | simp (disch:=omega) only [encs_getN,qb])<;>(try refine ev_ ?_)) | with_reducible exact ti_)
 refine qj (S:=Nat) (fun i=>i≤l.length∧idxF g (l.drop i) i = idxF g l 0) (fun i=>(⟨[(0,.sl 4 (qg l)),(1,.fn f [] [.ptr 0 0]),(7,.int .i64 l.length),(8,.int .i64 i)],[]⟩,[pdE p])) (fun i=>l.length - i) ?_ fun i hi=>?_
 ·refine qf 0 [0] ⟨Nat.zero_le _,rfl⟩ rfl (by simp) ?_ ?_ ?_<;>(try refine ev_ ?_)<;>(try with_reducible exact ti_)<;>(try simp (disch:=omega) only [qb,and_true,true_and])
 ·obtain ⟨hi,ha⟩:=hi
  repeat' (first | refine vs_ ?_ | ((first | refine vr_ ?_ | fail)<;>(try simp (disch:=first | omega | (simp only [List.length_set,List.length_append,List.length_cons,List.length_nil];done) | (simp only [List.length_set,List.length_append,List.length_cons,List.length_nil];omega)) only [q8,qb,go_sem,↓reduceIte])) | ((first | (refine cs_ ?_ ?_<;>intro hc) | refine cj_ ?_ | simp (disch:=omega) only [encs_getN,qb] | refine qcc 0 (hs (l.getD i P0)) ?_ (qnn _ _) (qnn _ _))<;>(try refine ev_ ?_)) | with_reducible exact ti_)
  ·rename_i hc;rw [← ha,dropP (by omega),idxF,if_pos hc]
  ·rename_i hc
   refine qf (i + 1) [0] ⟨⟨by omega,?_⟩,by omega⟩ rfl (by simp) ?_ ?_ ?_<;>(try refine ev_ ?_)<;>(try with_reducible exact ti_)<;>(try simp (disch:=omega) only [qb,and_true,true_and])
   rw [← ha,dropP (l:=l) (i:=i) (by omega),idxF,if_neg (by rw [hc];simp)];rfl
  ·rw [← ha,List.drop_of_length_le (by omega)];rfl
theorem qg2 {f:FuncId} {p:Pd} {g:Pd->Bool} (hs:∀ q,VM Tryz.prog f (pdE p) (pdE p) [encP q,.ptr 0 0] (.bool (g q))) (l:List Pd) (hl:l.length≤maxLen) :
 VM Tryz.prog 27 (pdE p) (pdE p) [.sl 4 (qg l),.fn f [] [.ptr 0 0]] (.bool (l.any g)):=by
 refine qr c0ct 1 (by simp) (by simp) ?_
 repeat' (first | refine vs_ ?_ | ((first | refine vr_ ?_ | refine qcc 0 (qip hs l hl) ?_ (qnn _ _) (qnn _ _) | (refine cs_ ?_ ?_<;>intro hc) | refine cj_ ?_ | fail)<;>(try refine ev_ ?_)) | with_reducible exact ti_)
 rw [q6f g l 0 (by omega)]
def hasP (l:List Pd) (p:Pd):Bool:=l.any fun q=>qmq p q
theorem qc4 (l:List Pd) (p:Pd):qk Tryz.prog 91 [.sl 4 (qg l),encP p] (.bool (hasP l p)):=by
 refine qd c0cu (by simp) (by simp only [go_sem]) rfl fun hw=>?_
 have hl:=(qca hw.1).1
 repeat' (first | refine vs_ ?_ | ((first | refine vr_ ?_ | refine qcc 0 (qg2 (has1 p) l hl) ?_ (qnn _ _) (qnn _ _) | (refine cs_ ?_ ?_<;>intro hc) | refine cj_ ?_ | fail)<;>(try refine ev_ ?_)) | with_reducible exact ti_)
 rfl
def qbh (acc:List Pd):List Pd->List Pd
 | []=>acc
 | x :: r=>if hasP acc x = true then qbh acc r else qbh (acc ++ [x]) r
theorem qd8 (acc:List Pd) {l:List Pd} {i:Nat} (h:i < l.length):qbh acc (l.drop i) = if hasP acc (l.getD i P0) = true then qbh acc (l.drop (i + 1)) else qbh (acc ++ [l.getD i P0]) (l.drop (i + 1)):=by
 rw [dropP h,qbh]
theorem capP {k:Nat} (h:k≤1000000000):qbb k 64:=by unfold qbb;omega
def qdt (l:List Pd) (x:Nat×List Pd):AF×List Ent:=(⟨[(3,accV 0 (qg x.2)),(6,.sl 4 (qg l)),(7,.int .i64 l.length),(8,.int .i64 x.1)],[]⟩,accE 4 (qg x.2))
theorem qy9 (l:List Pd) (hb:l.length≤1000000):qk Tryz.prog 59 [.sl 4 (qg l)] (.sl 4 (qg (qbh [] l))):=by
 refine qd c0cv (by simp) (by simp only [go_sem]) (qbk 0 _) fun hw=>?_
 have hl:=(qca hw.1).1
 repeat' (first | refine vs_ ?_ | ((first | refine vr_ ?_ | (refine cs_ ?_ ?_<;>intro hc) | refine cj_ ?_ | simp (disch:=omega) only [encs_getN,qb])<;>(try refine ev_ ?_)) | with_reducible exact ti_)
 refine qj (S:=Nat×List Pd) (fun x=>x.1≤l.length∧qbh x.2 (l.drop x.1) = qbh [] l∧x.2.length≤x.1) (qdt l) (fun x=>l.length - x.1) ?_ fun x hx=>?_
 ·refine qf (0,[]) [] ⟨Nat.zero_le _,rfl,Nat.le_refl _⟩ rfl (by simp) ?_ ?_ ?_<;>simp only [qdt,qw,qo,qn]<;>(try refine ev_ ?_)<;>(try with_reducible exact ti_)<;>(try simp (disch:=omega) only [qb,and_true,true_and])
 ·obtain ⟨i,acc⟩:=x
  obtain ⟨hi,ha,hc⟩:=hx
  dsimp only at hi ha hc
  have hcap:qbb (acc.length + 1) 64 = True:=eq_true (capP (by omega))
  unfold qdt
  by_cases h0:acc = []
  ·subst h0
   simp only [qw,qo,qn]
   repeat' (first | refine vs_ ?_ | ((first | refine vr_ ?_ | fail)<;>(try simp (disch:=first | omega | (simp only [List.length_set,List.length_append,List.length_cons,List.length_nil];done) | (simp only [List.length_set,List.length_append,List.length_cons,List.length_nil];omega)) only [q8,qb,q7,go_sem,↓reduceIte])) | ((first | simp (disch:=omega) only [hcap] | (refine cs_ ?_ ?_<;>intro hc) | refine cj_ ?_ | simp (disch:=omega) only [encs_getN,qb] | refine qa (qc4 [] _) fun _=>?_ | refine qc (qc4 [] _) ?_)<;>(try refine ev_ ?_)) | with_reducible exact ti_)
   ·rename_i hc
    refine qf (i + 1,[] ++ [l.getD i P0]) [1] ⟨⟨by dsimp only;omega,?_,by simp⟩,by dsimp only;omega⟩ rfl (by simp) ?_ ?_ ?_<;>simp only [qdt,List.nil_append,← qid,qda,qdc]<;>(try refine ev_ ?_)<;>(try with_reducible exact ti_)<;>(try simp (disch:=omega) only [qb,and_true,true_and])
    rw [← ha,qd8 (i:=i) _ (by omega),if_neg (by rw [hc];simp)];rfl
   ·rename_i hc
    exact absurd hc (by simp [hasP])
   ·rw [← ha,List.drop_of_length_le (by omega)];rfl
  ·simp only [qu (qbq h0),qv (qbq h0)]
   repeat' (first | refine vs_ ?_ | ((first | refine vr_ ?_ | fail)<;>(try simp (disch:=first | omega | (simp only [List.length_set,List.length_append,List.length_cons,List.length_nil];done) | (simp only [List.length_set,List.length_append,List.length_cons,List.length_nil];omega)) only [q8,qb,go_sem,↓reduceIte])) | ((first | simp (disch:=omega) only [List.take_length] | simp (disch:=omega) only [hcap] | (refine cs_ ?_ ?_<;>intro hc) | refine cj_ ?_ | simp (disch:=omega) only [encs_getN,qb] | refine qa (qc4 acc _) fun _=>?_ | refine qc (qc4 acc _) ?_)<;>(try refine ev_ ?_)) | with_reducible exact ti_)
   ·rename_i hc
    refine qf (i + 1,acc ++ [l.getD i P0]) [2] ⟨⟨by dsimp only;omega,?_,by simp;omega⟩,by dsimp only;omega⟩ rfl (by simp) ?_ ?_ ?_<;>simp only [qdt,← qb8,qdj,qdh,qi,List.take_length]<;>(try refine ev_ ?_)<;>(try with_reducible exact ti_)<;>(try simp (disch:=omega) only [qb,and_true,true_and])
    ·rw [← ha,qd8 (i:=i) _ (by omega),if_neg (by rw [hc];simp)]
    all_goals (simp only [qb8];exact ⟨qbk _ _,by rw [qbp]⟩)
   ·rename_i hc
    refine qf (i + 1,acc) [0] ⟨⟨by dsimp only;omega,?_,by dsimp only;omega⟩,by dsimp only;omega⟩ rfl (by simp) ?_ ?_ ?_<;>simp only [qdt,qu (qbq h0),qv (qbq h0)]<;>(try refine ev_ ?_)<;>(try with_reducible exact ti_)<;>(try simp (disch:=omega) only [qb,and_true,true_and])
    rw [← ha,qd8 (i:=i) _ (by omega),if_pos hc]
   ·rw [← ha,List.drop_of_length_le (by omega)];rfl
set_option maxRecDepth 4000

def qh3:List Pd->List Pd->Bool
 | [],[]=>true
 | x :: r,y :: r'=>qmq x y && qh3 r r'
 | _,_=>false
theorem ql4:∀ l m,qh3 l m = true ↔ l = m
 | [],[]=>by simp [qh3]
 | [],y :: r=>by rw [qh3]<;>simp
 | x :: r,[]=>by rw [qh3]<;>simp
 | x :: r,y :: r'=>by rw [qh3,Bool.and_eq_true,qrb,ql4 r r'];simp
theorem q3g {l m:List Pd} (h:l.length≠m.length):qh3 l m = false:=by
 cases hh:qh3 l m with
 | false=>rfl
 | true=>rw [(ql4 l m).1 hh] at h;exact absurd rfl h
theorem qnw {l m:List Pd} {i:Nat} (h:i < l.length) (h':i < m.length):qh3 (l.drop i) (m.drop i) = (qmq (l.getD i P0) (m.getD i P0) && qh3 (l.drop (i + 1)) (m.drop (i + 1))):=by
 rw [dropP h,dropP h',qh3]
theorem qz8 (l m:List Pd):qk Tryz.prog 18 [.sl 4 (qg l),.sl 4 (qg m)] (.bool (qh3 l m)):=by
 refine qd c0cl (by simp) (by simp only [go_sem]) rfl fun hw=>?_
 have hl:=(qca hw.1).1
 repeat' (first | refine vs_ ?_ | ((first | refine vr_ ?_ | (refine cs_ ?_ ?_<;>intro hc) | refine cj_ ?_ | simp (disch:=omega) only [encs_getN,qb])<;>(try refine ev_ ?_)) | with_reducible exact ti_)
 ·rw [q3g (by omega)]
 have hlm:l.length = m.length:=by omega
 refine qj (S:=Nat) (fun i=>i≤l.length∧qh3 (l.drop i) (m.drop i) = qh3 l m) (fun i=>(⟨[(0,.sl 4 (qg l)),(1,.sl 4 (qg m)),(5,.int .i64 i)],[]⟩,[])) (fun i=>l.length - i) ?_ fun i hi=>?_
 ·refine qf 0 [] ⟨Nat.zero_le _,rfl⟩ rfl (by simp) ?_ ?_ ?_<;>(try refine ev_ ?_)<;>(try with_reducible exact ti_)<;>(try simp (disch:=omega) only [qb,and_true,true_and])
 ·obtain ⟨hi,ha⟩:=hi
  repeat' (first | refine vs_ ?_ | ((first | refine vr_ ?_ | fail)<;>(try simp (disch:=first | omega | (simp only [List.length_set,List.length_append,List.length_cons,List.length_nil];done) | (simp only [List.length_set,List.length_append,List.length_cons,List.length_nil];omega)) only [q8,qb,go_sem,↓reduceIte])) | ((first | (refine cs_ ?_ ?_<;>intro hc) | refine cj_ ?_ | simp (disch:=omega) only [encs_getN,qb] | refine qa (qm0 _ _) fun _=>?_ | refine qc (qm0 _ _) ?_)<;>(try refine ev_ ?_)) | with_reducible exact ti_)
  ·rename_i hc;rw [← ha,qnw (by omega) (by omega),hc];rfl
  ·rename_i hc
   refine qf (i + 1) [] ⟨⟨by omega,?_⟩,by omega⟩ rfl (by simp) ?_ ?_ ?_<;>(try refine ev_ ?_)<;>(try with_reducible exact ti_)<;>(try simp (disch:=omega) only [qb,and_true,true_and])
   rw [← ha,qnw (l:=l) (m:=m) (i:=i) (by omega) (by omega),hc,Bool.true_and]
  ·rw [← ha,List.drop_of_length_le (by omega),List.drop_of_length_le (by omega)];rfl
theorem qu2 (p:Pd):qk Tryz.prog 120 [encP p] (.bool (decide (p.ty.con = []))):=by
 refine qd c0cm (by simp) (by simp only [go_sem]) rfl fun hw=>?_
 repeat' (first | refine vs_ ?_ | ((first | refine vr_ ?_ | (refine cs_ ?_ ?_<;>intro hc) | refine cj_ ?_ | fail)<;>(try refine ev_ ?_)) | with_reducible exact ti_)
def qbn (p:Pd):Bool:=conW p.cls && qba p.ty
theorem qkl {p:Pd} (h1:szY p.ty≤20000) (h2:dpY p.ty≤300):qk Tryz.prog 46 [encP p] (.bool (qbn p)):=by
 refine qd c0cn (by simp) (by simp only [go_sem]) rfl fun hw=>?_
 repeat' (first | refine vs_ ?_ | ((first | refine vr_ ?_ | refine qa (qhk _) fun _=>?_ | refine qa (qdl h1 h2) fun _=>?_ | (refine cs_ ?_ ?_<;>intro hc) | refine cj_ ?_ | fail)<;>(try refine ev_ ?_)) | with_reducible exact ti_)
 all_goals simp [qbn, *]
def fewP (l:List Pd):Bool:=decide (l.length≤30) && qnc (l.map Pd.ty)
theorem qka {l:List Ty} (h:l≠[]):qx l≠[]:=by cases l with | nil=>exact absurd rfl h | cons _ _=>simp [qx]
theorem ql0:qx [] = []:=by rw [qx]
theorem qyp (t:Ty):[encY t] = qx [t]:=by rw [qx,qx]
theorem qpv (l:List Pd) (i:Nat) (h:i < l.length):(l.map Pd.ty).take (i + 1) = (l.map Pd.ty).take i ++ [(l.getD i P0).ty]:=by
 rw [List.take_add_one,List.getElem?_map,List.getElem?_eq_getElem h,List.getD_eq_getElem?_getD,List.getElem?_eq_getElem h];rfl
theorem capY {k:Nat} (h:k≤1000000000):qbb k 48:=by unfold qbb;omega
def q3p (l:List Pd) (i:Nat):AF×List Ent:=(⟨[(0,.sl 4 (qg l)),(3,accV 0 (qx ((l.map Pd.ty).take i))),(4,.int .i64 i)],[]⟩,accE 3 (qx ((l.map Pd.ty).take i)))
theorem qb58 (l:List Pd):qk Tryz.prog 20 [.sl 4 (qg l)] (.int .i64 (if fewP l = true then 1 else 0)):=by
 refine qd c0co (by simp) (by simp only [go_sem]) rfl fun hw=>?_
 have hl:=(qca hw.1).1
 repeat' (first | refine vs_ ?_ | ((first | refine vr_ ?_ | (refine cs_ ?_ ?_<;>intro hc) | refine cj_ ?_ | simp (disch:=omega) only [encs_getN,qb])<;>(try refine ev_ ?_)) | with_reducible exact ti_)
 ·rw [if_neg (by simp [fewP];omega)]
 have h30:l.length≤30:=by omega
 refine qj (S:=Nat) (fun i=>i≤l.length) (q3p l) (fun i=>l.length - i) ?_ fun i hi=>?_
 ·refine qf 0 [] (Nat.zero_le _) rfl (by simp) ?_ ?_ ?_<;>simp only [q3p,List.take_zero,ql0,qo,qn]<;>(try refine ev_ ?_)<;>(try with_reducible exact ti_)<;>(try simp (disch:=omega) only [qb,and_true,true_and])
 ·have hfin:fewP l = qnc (l.map Pd.ty):=by rw [fewP,decide_eq_true h30,Bool.true_and]
  have hlm:((l.map Pd.ty).take i).length = i:=by rw [List.length_take,List.length_map];omega
  have hcap:qbb (i + 1) 48 = True:=eq_true (capY (by omega))
  unfold q3p
  by_cases hlt:i < l.length
  ·have hs:=qpv l i hlt
   by_cases h0:i = 0
   ·subst h0
    simp only [List.take_zero,ql0,qo,qn]
    repeat' (first | refine vs_ ?_ | ((first | refine vr_ ?_ | fail)<;>(try simp (disch:=first | omega | (simp only [List.length_set,List.length_append,List.length_cons,List.length_nil];done) | (simp only [List.length_set,List.length_append,List.length_cons,List.length_nil];omega)) only [q8,qb,q25,go_sem,↓reduceIte])) | ((first | simp (disch:=omega) only [(show qbb 1 48 = True from eq_true (capY (by omega)))] | (refine cs_ ?_ ?_<;>intro hc) | refine cj_ ?_ | simp (disch:=omega) only [encs_getN,qb])<;>(try refine ev_ ?_)) | with_reducible exact ti_)
    ·refine qf 1 [0] ⟨by omega,by omega⟩ rfl (by simp) ?_ ?_ ?_<;>simp only [q3p,hs,List.take_zero,List.nil_append,← qyp,qda,qdc]<;>(try refine ev_ ?_)<;>(try with_reducible exact ti_)<;>(try simp (disch:=omega) only [qb,and_true,true_and])
     all_goals (rw [qn9])
    ·omega
   ·have hne:(l.map Pd.ty).take i≠[]:=fun h=>h0 (by rw [← hlm,h];rfl)
    simp only [qu (qka hne),qv (qka hne),qbz,hlm]
    repeat' (first | refine vs_ ?_ | ((first | refine vr_ ?_ | fail)<;>(try simp (disch:=first | omega | (simp only [List.length_set,List.length_append,List.length_cons,List.length_nil];done) | (simp only [List.length_set,List.length_append,List.length_cons,List.length_nil];omega)) only [q8,qb,q25,qbz,hlm,go_sem,↓reduceIte])) | ((first | simp (disch:=omega) only [hcap] | (refine cs_ ?_ ?_<;>intro hc) | refine cj_ ?_ | simp (disch:=omega) only [encs_getN,qb])<;>(try refine ev_ ?_)) | with_reducible exact ti_)
    ·have hl2:qx ((l.map Pd.ty).take (i + 1)) = qx ((l.map Pd.ty).take i) ++ [encY (l.getD i P0).ty]:=by rw [hs,qgo]
     refine qf (i + 1) [1] ⟨by omega,by omega⟩ rfl (by simp) ?_ ?_ ?_<;>simp only [q3p,hl2,qdj,qdh,qbz,hlm]<;>(try refine ev_ ?_)<;>(try with_reducible exact ti_)<;>(try simp (disch:=omega) only [qb,and_true,true_and])
     all_goals (simp only [qgo];exact ⟨qcm _ _,by rw [qfz]⟩)
    ·omega
  ·have hend:(l.map Pd.ty).take i = l.map Pd.ty:=List.take_of_length_le (by rw [List.length_map];omega)
   have hf:=qb7n (l.map Pd.ty)
   rw [hend,hfin]
   by_cases h0:l.map Pd.ty = []
   ·rw [h0] at hf ⊢
    simp only [ql0,qo,qn]
    repeat' (first | refine vs_ ?_ | ((first | refine vr_ ?_ | fail)<;>(try simp only [q7,go_sem,↓reduceIte])) | ((first | (refine cs_ ?_ ?_<;>intro hc) | refine cj_ ?_ | simp (disch:=omega) only [encs_getN,qb] | refine qa hf fun _=>?_)<;>(try refine ev_ ?_)) | with_reducible exact ti_)
    all_goals omega
   ·simp only [qu (qka h0),qv (qka h0),qbz]
    repeat' (first | refine vs_ ?_ | ((first | refine vr_ ?_ | fail)<;>(try simp only [qbz,go_sem,↓reduceIte])) | ((first | (refine cs_ ?_ ?_<;>intro hc) | refine cj_ ?_ | simp (disch:=omega) only [encs_getN,qb] | refine qa hf fun _=>?_)<;>(try refine ev_ ?_)) | with_reducible exact ti_)
    all_goals omega

/-! the reference's -/


def typA (p:Ty×Int):AV:=.tup [encY p.1,.int .i64 p.2]
theorem q1v (k:Nat) (p:Ty×Int):(typA p).bd k = true:=by simp only [typA,AV.bd,AV.bds,qck,Bool.and_true]
end Go.Proofs.YtgglaabljlhliaaGreat
