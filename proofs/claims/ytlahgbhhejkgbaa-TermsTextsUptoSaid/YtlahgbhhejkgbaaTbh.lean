/- A text of this proof. -/
import Derived.Test.YtlahgbhhejkgbaaTay
import Derived.Test.YtlahgbhhejkgbaaTah
set_option linter.unusedVariables false
set_option linter.unusedSimpArgs false

/- terms: whether a variable stands in a type; functions' types -/
set_option maxRecDepth 4000
namespace Go.Proofs.Ytlahgbhhejkgbaa
open Go Go.RowKit Go.V

def hasN (v:Int) (t:Ty):Bool:=decide (t.con = []) && decide (t.var = v)
def qp1 (v:Int) (u:Unit) (t:Ty) (_:Int):Unit×Bool:=(u,!hasN v t)
theorem has1 (v:Int) (t:Ty) (k:Int):VM Try.prog 49 (.blk [.int .i64 v]) (.blk [.int .i64 v]) [encY t,.int .i64 k,.ptr 0 0] (.bool (!hasN v t)):=by
 refine qbl c0cp 1 (by simp) (by simp) ?_
 repeat' (first | refine vs_ ?_ | ((first | refine vr_ ?_ | (refine cs_ ?_ ?_<;>intro hc) | refine cj_ ?_ | fail)<;>(try refine ev_ ?_)) | with_reducible exact ti_)
 all_goals simp_all [hasN]
mutual
theorem qbh1 (v:Int):∀ (t:Ty) (k:Int),(qbv (qp1 v) t () k).2 = !decide (v∈varY t)
 | .mk c x l, k => by
   rw [qbv,varY]
   by_cases hc:c = []
   ·by_cases hx:x = v
    ·rw [if_neg (by simp [qp1,hasN,Ty.con,Ty.var,hc,hx])];simp [hc,hx]
    ·rw [if_pos (by simp [qp1,hasN,Ty.con,Ty.var,hc,hx]),qsa v l];simp [hc,Ne.symm hx]
   ·rw [if_pos (by simp [qp1,hasN,Ty.con,hc]),qsa v l];simp [hc]
theorem qsa (v:Int):∀ (l:List Ty) (u:Unit) (k:Int),(q9 (qp1 v) l u k).2 = !decide (v∈ql3 l)
 | [],u,k=>by rw [q9,ql3];simp
 | x :: r, u, k => by
   have h1:=qbh1 v x k
   rw [q9,ql3]
   cases u
   by_cases hv:v∈varY x
   ·rw [if_neg (by rw [h1];simp [hv])];simp [hv]
   ·rw [if_pos (by rw [h1];simp [hv]),qsa v r];simp [hv]
end
theorem qln (t:Ty) (v:Int):qg Try.prog 20 [encY t,.int .i64 v] (.bool (decide (v∈varY t))):=by
 refine qd c0cq (by simp) (by simp only [go_sem]) rfl fun hw=>?_
 have hwalk:=qfy (S:=Unit) (st:=fun _=>.blk [.int .i64 v]) (step:=qp1 v) (f:=49) (ok:=fun _ _=>True) (fun _=>rfl) (fun _ _ _ _ _=>trivial) (fun _ _ _=>trivial) (fun u t k _=>has1 v t k) t () 1 trivial
 rw [qbh1] at hwalk
 repeat' (first | refine vs_ ?_ | ((first | refine vr_ ?_ | refine qbu 1 hwalk ?_ | (refine cs_ ?_ ?_<;>intro hc) | refine cj_ ?_ | fail)<;>(try refine ev_ ?_)) | with_reducible exact ti_)
 rw [Bool.not_not]

/-! functions' types -/
def fun2 (a b:Ty):Ty:=.mk arrW 0 [a,b]
def funY (l:List Ty) (to:Ty):Ty:=l.foldr fun2 to
theorem qxc (a b:Ty):qg Try.prog 52 [encY a,encY b] (encY (fun2 a b)):=by
 refine qd c0cr (by simp) (by simp only [go_sem]) (qbq 0 _) fun hw=>?_
 repeat' (first | refine vs_ ?_ | ((first | refine vr_ ?_ | (refine cs_ ?_ ?_<;>intro hc) | refine cj_ ?_ | fail)<;>(try refine ev_ ?_)) | with_reducible exact ti_)
 all_goals (try rfl)
theorem qbi3 {j:Nat} (h:j≤maxLen):IntKind.i64.wrap (((j + 1:Nat):Int) - 1 - 1) = (j:Int) - 1:=by
 unfold maxLen at h
 rw [qt (by omega) (by omega)];omega
theorem qh3 (l:List Ty):VCalls Try.prog 51 [] [.sl 3 (qk l)] (fun H1 o=>H1 = [.blk [.sl 3 (qk l)]]∧o = .val (.fn 70 [] [.ptr 0 0])):=by
 refine qbl c0cs 1 (by simp) (by simp) ?_
 repeat' (first | refine vs_ ?_ | ((first | refine vr_ ?_ | (refine cs_ ?_ ?_<;>intro hc) | refine cj_ ?_ | fail)<;>(try refine ev_ ?_)) | with_reducible exact ti_)
theorem qs3 {l:List Ty} {H:List Ent} {Q:List Ent->VO->Prop} (h:Q (H ++ [.blk [.sl 3 (qk l)]]) (.val (.fn 70 [] [.ptr H.length 0]))):VApp Try.prog H (.fn 51 [] []) [.sl 3 (qk l)] Q :=
 qwe (qh3 l) (by simp only [AV.bds,AV.bd,qb6,Bool.and_true]) (by rintro _ _ ⟨rfl,rfl⟩;simpa [qnx,qv,sg',VO.ren,AV.ren,AV.rens,Ent.ren,qcv] using h)
section
variable {S:Type} {l:List Ty} {m i p:Nat} {hs:S->List Ent} {f:Ty->S->S} (hlen:∀ s,(hs s).length = m) (hbd:∀ s,(hs s).all (Ent.bd m) = true) (hi:i < m) (hpm:p < m) (hp:∀ s,ent (hs s) p = .blk [.sl 3 (qk l)])
 (app:∀ s k n (Q:List Ent->VO->Prop),Q (hs (f n s)) (.val (.bool true))->VApp Try.prog (hs s) (.opq i) [.int .i64 k,encY n] Q)
include hlen hbd hi hpm hp app
theorem qwz (hl:l.length≤maxLen) (to:S):VCalls Try.prog 70 (hs to) [.opq i,.ptr p 0] (fun H' o=>H' = hs (l.foldr f to)∧o = .val (.tup [])):=by
 refine qbl c0ct m (by rw [hlen];exact Nat.le_refl _) (by simp) ?_
 have ht:∀ s,(hs s).take m = hs s:=fun s=>by rw [← hlen s];simp
 have h0:IntKind.i64.wrap ((l.length:Int) - 1) = (l.length:Int) - 1:=by unfold maxLen at hl;exact qt (by omega) (by omega)
 have hlt:∀ s,decide (i < (hs s).length) = true:=fun s=>by rw [hlen];exact decide_eq_true hi
 unfold k0ct
 repeat' (first | refine vs_ ?_ | ((first | refine vr_ ?_ | fail)<;>(try simp only [hp,h0,go_sem,↓reduceIte])) | ((first | (refine cs_ ?_ ?_<;>intro hc) | refine cj_ ?_ | simp (disch:=omega) only [encs_getN,qb])<;>(try refine ev_ ?_)) | with_reducible exact ti_)
 refine qw (S:=Nat) (fun j=>j≤l.length) (fun j=>(⟨[(0,.opq i),(1,.ptr p 0),(3,.int .i64 ((j:Int) - 1))],[]⟩,hs ((l.drop j).foldr f to))) (fun j=>j) ?_ fun j hj=>?_
 ·refine qov l.length [] (Nat.le_refl _) ?_ ?_ ?_ ?_ ?_ ?_<;>simp only [List.drop_length]<;>(try refine ev_ ?_)<;>(try with_reducible exact ti_)<;>(try simp (disch:=omega) only [qb,and_true,true_and])
  ·rw [hlen,hlen];exact Nat.le_refl _
  ·rfl
  ·rw [hlen];exact hbd _
  ·rw [hlen,decide_eq_true hi,decide_eq_true hpm];exact ⟨rfl,rfl⟩
 ·cases j with
  | zero =>
    repeat' (first | refine vs_ ?_ | ((first | refine vr_ ?_ | fail)<;>(try simp only [hp,ht,go_sem,↓reduceIte])) | ((first | (refine cs_ ?_ ?_<;>intro hc) | refine cj_ ?_ | simp (disch:=omega) only [encs_getN,qb])<;>(try refine ev_ ?_)) | with_reducible exact ti_)
    ·exfalso;omega
    ·rw [hlen];exact ⟨Nat.le_refl _,hbd _⟩
  | succ j =>
    have hj':j < l.length:=by omega
    have hjj:((j + 1:Nat):Int) - 1 = (j:Int):=by omega
    have hd:=qbi3 (j:=j) (by omega)
    rw [hjj] at hd
    have hp':=qq hj'
    rw [hjj]
    repeat' (first | refine vs_ ?_ | ((first | refine vr_ ?_ | fail)<;>(try simp only [hp,hp',hd,go_sem,↓reduceIte])) | ((first | simp (disch:=omega) only [hp'] | (refine cs_ ?_ ?_<;>intro hc) | refine cj_ ?_ | simp (disch:=omega) only [encs_getN,qb] | refine app _ _ _ _ ?_)<;>(try refine ev_ ?_)) | with_reducible exact ti_)
    refine qov j [] ⟨by omega,by omega⟩ ?_ ?_ ?_ ?_ ?_ ?_<;>simp only [qiw hj',List.foldr_cons]<;>(try refine ev_ ?_)<;>(try with_reducible exact ti_)<;>(try simp (disch:=omega) only [qb,and_true,true_and])
    ·rw [hlen,hlen];exact Nat.le_refl _
    ·rw [hlen];exact hbd _
    ·rw [hlen,decide_eq_true hi,decide_eq_true hpm];exact ⟨rfl,rfl⟩
end
def fnV (x:Bool×Ty):AV:=if x.1 = true then .lit 3 (qk x.2.args) else .sl 3 (qk x.2.args)
def fnS (a:Ty) (x:Bool×Ty):Bool×Ty:=(true,fun2 a x.2)
theorem q3u (l:List Ty) (to:Ty):(l.foldr fnS (false,to)).2 = funY l to:=by
 induction l with
 | nil=>rfl
 | cons a r ih=>rw [List.foldr_cons,fnS,ih];rfl
def funH (l:List Ty) (fn:FuncId) (asn bd:Code) (t0:Ty) (x:Bool×Ty):List Ent:=[.blk [.str x.2.con,.int .i64 x.2.var,fnV x],.blk [.str [],.int .i64 0,.nils],.blk [.sl 3 (qk l)],
 .lp ⟨.ready,none,fn,[9,10].toArray,asn,bd⟩ (qkh 16 [(8,.fn 70 [] [.ptr 2 0]),(7,.sl 3 (qk l)),(4,.ptr 1 0),(3,.ptr 0 0),(0,.sl 3 (qk l)),(1,encY t0)])]
theorem qbfp (k:Nat) (x:Bool×Ty):(fnV x).bd k = true:=by rw [fnV];split<;>simp only [AV.bd,qb6]
theorem qzr (H:List Ent) (x:Bool×Ty):co H (.sl 3) (fnV x) = .sl 3 (qk x.2.args):=by rw [fnV];split<;>rfl
theorem qvi (x:Bool×Ty):(fnV x).leaf = true:=by rw [fnV];split<;>rfl
theorem qba6 {l:List Ty} {t0:Ty} {fn:FuncId} {asn bd:Code} (ha:qbe Try.prog 16 asn = some qt3) (hb:qbe Try.prog 16 bd = some qsg) (x:Bool×Ty) (k:Int) (n:Ty) (Q:List Ent->VO->Prop) (h:Q (funH l fn asn bd t0 (fnS n x)) (.val (.bool true))):VApp Try.prog (funH l fn asn bd t0 x) (.opq 3) [.int .i64 k,encY n] Q:=by
 unfold funH at h ⊢
 refine qp7 (k:=4) rfl rfl ql0 ha hb (by simp) (by simp) (by simp) fun lp=>?_
 refine qn3 0 2 (.sl 3) rfl ?_
 simp only [List.getD_cons_succ,List.getD_cons_zero,qzr,List.set_cons_zero,List.set_cons_succ]
 repeat' (first | refine vs_ ?_ | ((first | refine vr_ ?_ | (refine cs_ ?_ ?_<;>intro hc) | refine cj_ ?_ | simp (disch:=omega) only [encs_getN,qb])<;>(try refine ev_ ?_)) | with_reducible exact ti_)
 exact h
theorem qt9 (l:List Ty) (to:Ty):qg Try.prog 24 [.sl 3 (qk l),encY to] (encY (funY l to)):=by
 refine qd c0cu (by simp) (by simp only [go_sem]) (qbq 0 _) fun hw=>?_
 have hl:l.length≤maxLen:=by have:=hw.1.1;rwa [qcz] at this
 repeat' (first | refine vs_ ?_ | ((first | refine vr_ ?_ | refine qs3 ?_ | (refine cs_ ?_ ?_<;>intro hc) | refine cj_ ?_ | fail)<;>(try refine ev_ ?_)) | with_reducible exact ti_)
 refine qbfd rfl (Nat.zero_le _) fun fn asn bd ha hb=>?_
 refine VCalls.mono (qwz (hs:=funH l fn asn bd to) (f:=fnS) (m:=4) (i:=3) (p:=2) (fun _=>rfl) (fun x=>?_) (by omega) (by omega) (fun _=>rfl) (fun s k n Q h=>qba6 ha hb s k n Q h) hl (false,to)) ?_
 ·unfold funH
  simp only [List.all_cons,List.all_nil,Ent.bd,AV.bds,AV.bd,qbfp,qb6,go_sem,qbq]
 ·rintro H1 o ⟨rfl,rfl⟩
  have hf:=q3u l to
  generalize l.foldr fnS (false,to) = x at hf ⊢
  unfold funH
  rw [← hf]
  repeat' (first | refine vs_ ?_ | ((first | refine vr_ ?_ | fail)<;>(try simp only [qzr,qvi,go_sem,↓reduceIte])) | ((first | (refine cs_ ?_ ?_<;>intro hc) | refine cj_ ?_ | fail)<;>(try refine ev_ ?_)) | with_reducible exact ti_)
  all_goals exact qbj _
/-! what is split -/
def splF:Nat->Ty->List Ty×Ty
 | 0,t=>([],t)
 | n + 1,t=>if t.con = arrW∧t.args.length = 2 then (t.args.getD 0 Y0 :: (splF n (t.args.getD 1 Y0)).1,(splF n (t.args.getD 1 Y0)).2) else ([],t)
def splY (t:Ty):List Ty×Ty:=splF (dpY t) t
theorem qj2 {t:Ty} {i:Nat} (h:i < t.args.length):dpY (t.args.getD i Y0) + 1≤dpY t:=by
 have:=qnj (qbw h)
 rw [qte t];omega
theorem qhh:∀ (n m:Nat) (t:Ty),dpY t≤n->dpY t≤m->splF n t = splF m t
 | 0,m,t,h,_=>by have:=qeq t;omega
 | n + 1,0,t,_,h=>by have:=qeq t;omega
 | n + 1, m + 1, t, h1, h2 => by
   rw [splF,splF]
   split
   ·rename_i hc
    have:=qj2 (t:=t) (i:=1) (by omega)
    rw [qhh n m _ (by omega) (by omega)]
   ·rfl
theorem qf0 (t:Ty):splY t = if t.con = arrW∧t.args.length = 2 then (t.args.getD 0 Y0 :: (splY (t.args.getD 1 Y0)).1,(splY (t.args.getD 1 Y0)).2) else ([],t):=by
 have hp:=qeq t
 obtain ⟨n,hn⟩:∃ n,dpY t = n + 1:=⟨dpY t - 1,by omega⟩
 rw [splY,hn,splF]
 split
 ·rename_i hc
  have:=qj2 (t:=t) (i:=1) (by omega)
  rw [qhh n (dpY (t.args.getD 1 Y0)) _ (by omega) (Nat.le_refl _)];rfl
 ·rfl
def splA (p:List Ty×Ty):AV:=.tup [.sl 3 (qk p.1),encY p.2]
theorem qbk {l:List Ty} (h:l≠[]):qk l≠[]:=by cases l with | nil=>exact absurd rfl h | cons _ _=>simp [qk]
def qis (x:List Ty×Ty):AF×List Ent:=(⟨[(1,.ptr 0 0),(3,.ptr 1 0),(4,accV 2 (qk x.1))],[]⟩,[.blk (yc x.2),.blk [.str [],.int .i64 0,.nils]] ++ accE 3 (qk x.1))
def splI (t:Ty) (x:List Ty×Ty):Prop:=splY t = (x.1 ++ (splY x.2).1,(splY x.2).2)∧dpY x.2≤dpY t∧x.1.length + dpY x.2≤dpY t
set_option maxHeartbeats 1000000 in
theorem q1g {t:Ty} (hd:dpY t≤1000000):qg Try.prog 26 [encY t] (splA (splY t)):=by
 refine qd c0cv (by simp) (by simp only [go_sem]) (by simp only [splA,AV.bd,AV.bds,qb6,qbq,Bool.and_true]) fun hw=>?_
 have hk:=qb9 hw.1
 repeat' (first | refine vs_ ?_ | ((first | refine vr_ ?_ | (refine cs_ ?_ ?_<;>intro hc) | refine cj_ ?_ | simp (disch:=omega) only [encs_getN,qb])<;>(try refine ev_ ?_)) | with_reducible exact ti_)
 refine qw (S:=List Ty×Ty) (splI t) qis (fun x=>dpY x.2) ?_ fun x hx=>?_
 ·refine qm ([],t) [0,1] ⟨rfl,Nat.le_refl _,by simp⟩ rfl (by simp) ?_ ?_ ?_<;>simp only [qis,qk,qb4,qb5,List.append_nil]<;>(try refine ev_ ?_)<;>(try with_reducible exact ti_)<;>(try simp (disch:=omega) only [qb,and_true,true_and])
 ·obtain ⟨a,u⟩:=x
  obtain ⟨h1,h2,h3⟩:=hx
  dsimp only at h1 h2 h3
  unfold qis
  by_cases hc1:u.con = [45,62]
  ·by_cases hc2:u.args.length = 2
   ·have hc2i:(u.args.length:Int) = 2:=by omega
    have hs:splY u = (u.args.getD 0 Y0 :: (splY (u.args.getD 1 Y0)).1,(splY (u.args.getD 1 Y0)).2):=by rw [qf0,if_pos ⟨hc1,hc2⟩]
    have hdp:=qj2 (t:=u) (i:=1) (by omega)
    have g0:=qq (l:=u.args) (i:=0) (by omega)
    have g1:=qq (l:=u.args) (i:=1) (by omega)
    have hnx:splI t (a ++ [u.args.getD 0 Y0],u.args.getD 1 Y0):=⟨by rw [h1,hs];simp,by dsimp only;omega,by dsimp only;rw [List.length_append,List.length_singleton];omega⟩
    have hcap:qcf (a.length + 1) 48 = True:=eq_true (by unfold qcf;omega)
    have hcap0:qcf 1 48 = True:=eq_true (by unfold qcf;omega)
    by_cases ha:a = []
    ·subst ha
     simp only [qk,qb4,qb5,List.append_nil]
     repeat' (first | refine vs_ ?_ | ((first | refine vr_ ?_ | fail)<;>(try simp only [hc1,hc2i,g0,g1,hcap0,go_sem,↓reduceIte])) | ((first | simp (disch:=omega) only [g0] | simp (disch:=omega) only [g1] | simp (disch:=omega) only [hcap0] | (refine cs_ ?_ ?_<;>intro hc) | refine cj_ ?_ | simp (disch:=omega) only [encs_getN,qb])<;>(try refine ev_ ?_)) | with_reducible exact ti_)
     refine qm ([u.args.getD 0 Y0],u.args.getD 1 Y0) [0,1,2] ⟨hnx,by dsimp only;omega⟩ rfl (by simp) ?_ ?_ ?_<;>simp only [qis,qk,qks,qkg]<;>(try refine ev_ ?_)<;>(try with_reducible exact ti_)<;>(try simp (disch:=omega) only [qb,and_true,true_and])
    ·simp only [qde (qbk ha),qda (qbk ha)]
     repeat' (first | refine vs_ ?_ | ((first | refine vr_ ?_ | fail)<;>(try simp only [hc1,hc2i,g0,g1,hcap,go_sem,↓reduceIte])) | ((first | simp (disch:=omega) only [g0] | simp (disch:=omega) only [g1] | simp (disch:=omega) only [hcap] | (refine cs_ ?_ ?_<;>intro hc) | refine cj_ ?_ | simp (disch:=omega) only [encs_getN,qb])<;>(try refine ev_ ?_)) | with_reducible exact ti_)
     refine qm (a ++ [u.args.getD 0 Y0],u.args.getD 1 Y0) [0,1,3] ⟨hnx,by dsimp only;omega⟩ rfl (by simp) ?_ ?_ ?_<;>simp only [qis,← qdi,qia,qio,qcz]<;>(try refine ev_ ?_)<;>(try with_reducible exact ti_)<;>(try simp (disch:=omega) only [qb,and_true,true_and])
     all_goals (rw [qdi,qcv];exact ⟨qb6 _ _,rfl⟩)
   ·have hc2i:¬ (u.args.length:Int) = 2:=by omega
    have hs:splY u = ([],u):=by rw [qf0,if_neg (fun h=>hc2 h.2)]
    have hfin:splA (splY t) = .tup [.sl 3 (qk a),.agg [.str [45,62],.int .i64 u.var,.sl 3 (qk u.args)]]:=by
     rw [h1,hs]
     show AV.tup [.sl 3 (qk (a ++ [])),encY u] = _
     rw [List.append_nil,← qbj u,hc1]
    rw [hfin]
    by_cases ha:a = []
    ·subst ha
     simp only [qk,qb4,qb5,List.append_nil]
     repeat' (first | refine vs_ ?_ | ((first | refine vr_ ?_ | fail)<;>(try simp only [hc1,hc2i,go_sem,↓reduceIte])) | ((first | (refine cs_ ?_ ?_<;>intro hc) | refine cj_ ?_ | simp (disch:=omega) only [encs_getN,qb])<;>(try refine ev_ ?_)) | with_reducible exact ti_)
    ·simp only [qde (qbk ha),qda (qbk ha)]
     repeat' (first | refine vs_ ?_ | ((first | refine vr_ ?_ | fail)<;>(try simp only [hc1,hc2i,go_sem,↓reduceIte])) | ((first | (refine cs_ ?_ ?_<;>intro hc) | refine cj_ ?_ | simp (disch:=omega) only [encs_getN,qb])<;>(try refine ev_ ?_)) | with_reducible exact ti_)
  ·have hs:splY u = ([],u):=by rw [qf0,if_neg (fun h=>hc1 h.1)]
   have hfin:splA (splY t) = .tup [.sl 3 (qk a),encY u]:=by
    rw [h1,hs]
    show AV.tup [.sl 3 (qk (a ++ [])),encY u] = _
    rw [List.append_nil]
   rw [hfin]
   by_cases ha:a = []
   ·subst ha
    simp only [qk,qb4,qb5,List.append_nil]
    repeat' (first | refine vs_ ?_ | ((first | refine vr_ ?_ | fail)<;>(try simp only [hc1,go_sem,↓reduceIte])) | ((first | (refine cs_ ?_ ?_<;>intro hc) | refine cj_ ?_ | simp (disch:=omega) only [encs_getN,qb])<;>(try refine ev_ ?_)) | with_reducible exact ti_)
   ·simp only [qde (qbk ha),qda (qbk ha)]
    repeat' (first | refine vs_ ?_ | ((first | refine vr_ ?_ | fail)<;>(try simp only [hc1,go_sem,↓reduceIte])) | ((first | (refine cs_ ?_ ?_<;>intro hc) | refine cj_ ?_ | simp (disch:=omega) only [encs_getN,qb])<;>(try refine ev_ ?_)) | with_reducible exact ti_)
set_option maxHeartbeats 1000000 in
theorem qnf {t:Ty} (hd:dpY t≤1000000):qg Try.prog 25 [encY t] (splA (splY t)):=by
 refine qd c0cw (by simp) (by simp only [go_sem]) (by simp only [splA,AV.bd,AV.bds,qb6,qbq,Bool.and_true]) fun hw=>?_
 have hk:=qb9 hw.1
 repeat' (first | refine vs_ ?_ | ((first | refine vr_ ?_ | (refine cs_ ?_ ?_<;>intro hc) | refine cj_ ?_ | simp (disch:=omega) only [encs_getN,qb])<;>(try refine ev_ ?_)) | with_reducible exact ti_)
 refine qw (S:=List Ty×Ty) (splI t) qis (fun x=>dpY x.2) ?_ fun x hx=>?_
 ·refine qm ([],t) [0,1] ⟨rfl,Nat.le_refl _,by simp⟩ rfl (by simp) ?_ ?_ ?_<;>simp only [qis,qk,qb4,qb5,List.append_nil]<;>(try refine ev_ ?_)<;>(try with_reducible exact ti_)<;>(try simp (disch:=omega) only [qb,and_true,true_and])
 ·obtain ⟨a,u⟩:=x
  obtain ⟨h1,h2,h3⟩:=hx
  dsimp only at h1 h2 h3
  unfold qis
  by_cases hc1:u.con = [45,62]
  ·by_cases hc2:u.args.length = 2
   ·have hc2i:(u.args.length:Int) = 2:=by omega
    have hs:splY u = (u.args.getD 0 Y0 :: (splY (u.args.getD 1 Y0)).1,(splY (u.args.getD 1 Y0)).2):=by rw [qf0,if_pos ⟨hc1,hc2⟩]
    have hdp:=qj2 (t:=u) (i:=1) (by omega)
    have g0:=qq (l:=u.args) (i:=0) (by omega)
    have g1:=qq (l:=u.args) (i:=1) (by omega)
    have hnx:splI t (a ++ [u.args.getD 0 Y0],u.args.getD 1 Y0):=⟨by rw [h1,hs];simp,by dsimp only;omega,by dsimp only;rw [List.length_append,List.length_singleton];omega⟩
    have hcap:qcf (a.length + 1) 48 = True:=eq_true (by unfold qcf;omega)
    have hcap0:qcf 1 48 = True:=eq_true (by unfold qcf;omega)
    by_cases ha:a = []
    ·subst ha
     simp only [qk,qb4,qb5,List.append_nil]
     repeat' (first | refine vs_ ?_ | ((first | refine vr_ ?_ | fail)<;>(try simp only [hc1,hc2i,g0,g1,hcap0,go_sem,↓reduceIte])) | ((first | simp (disch:=omega) only [g0] | simp (disch:=omega) only [g1] | simp (disch:=omega) only [hcap0] | (refine cs_ ?_ ?_<;>intro hc) | refine cj_ ?_ | simp (disch:=omega) only [encs_getN,qb])<;>(try refine ev_ ?_)) | with_reducible exact ti_)
     refine qm ([u.args.getD 0 Y0],u.args.getD 1 Y0) [0,1,2] ⟨hnx,by dsimp only;omega⟩ rfl (by simp) ?_ ?_ ?_<;>simp only [qis,qk,qks,qkg]<;>(try refine ev_ ?_)<;>(try with_reducible exact ti_)<;>(try simp (disch:=omega) only [qb,and_true,true_and])
    ·simp only [qde (qbk ha),qda (qbk ha)]
     repeat' (first | refine vs_ ?_ | ((first | refine vr_ ?_ | fail)<;>(try simp only [hc1,hc2i,g0,g1,hcap,go_sem,↓reduceIte])) | ((first | simp (disch:=omega) only [g0] | simp (disch:=omega) only [g1] | simp (disch:=omega) only [hcap] | (refine cs_ ?_ ?_<;>intro hc) | refine cj_ ?_ | simp (disch:=omega) only [encs_getN,qb])<;>(try refine ev_ ?_)) | with_reducible exact ti_)
     refine qm (a ++ [u.args.getD 0 Y0],u.args.getD 1 Y0) [0,1,3] ⟨hnx,by dsimp only;omega⟩ rfl (by simp) ?_ ?_ ?_<;>simp only [qis,← qdi,qia,qio,qcz]<;>(try refine ev_ ?_)<;>(try with_reducible exact ti_)<;>(try simp (disch:=omega) only [qb,and_true,true_and])
     all_goals (rw [qdi,qcv];exact ⟨qb6 _ _,rfl⟩)
   ·have hc2i:¬ (u.args.length:Int) = 2:=by omega
    have hs:splY u = ([],u):=by rw [qf0,if_neg (fun h=>hc2 h.2)]
    have hfin:splA (splY t) = .tup [.sl 3 (qk a),.agg [.str [45,62],.int .i64 u.var,.sl 3 (qk u.args)]]:=by
     rw [h1,hs]
     show AV.tup [.sl 3 (qk (a ++ [])),encY u] = _
     rw [List.append_nil,← qbj u,hc1]
    rw [hfin]
    by_cases ha:a = []
    ·subst ha
     simp only [qk,qb4,qb5,List.append_nil]
     repeat' (first | refine vs_ ?_ | ((first | refine vr_ ?_ | fail)<;>(try simp only [hc1,hc2i,go_sem,↓reduceIte])) | ((first | (refine cs_ ?_ ?_<;>intro hc) | refine cj_ ?_ | simp (disch:=omega) only [encs_getN,qb])<;>(try refine ev_ ?_)) | with_reducible exact ti_)
    ·simp only [qde (qbk ha),qda (qbk ha)]
     repeat' (first | refine vs_ ?_ | ((first | refine vr_ ?_ | fail)<;>(try simp only [hc1,hc2i,go_sem,↓reduceIte])) | ((first | (refine cs_ ?_ ?_<;>intro hc) | refine cj_ ?_ | simp (disch:=omega) only [encs_getN,qb])<;>(try refine ev_ ?_)) | with_reducible exact ti_)
  ·have hs:splY u = ([],u):=by rw [qf0,if_neg (fun h=>hc1 h.1)]
   have hfin:splA (splY t) = .tup [.sl 3 (qk a),encY u]:=by
    rw [h1,hs]
    show AV.tup [.sl 3 (qk (a ++ [])),encY u] = _
    rw [List.append_nil]
   rw [hfin]
   by_cases ha:a = []
   ·subst ha
    simp only [qk,qb4,qb5,List.append_nil]
    repeat' (first | refine vs_ ?_ | ((first | refine vr_ ?_ | fail)<;>(try simp only [hc1,go_sem,↓reduceIte])) | ((first | (refine cs_ ?_ ?_<;>intro hc) | refine cj_ ?_ | simp (disch:=omega) only [encs_getN,qb])<;>(try refine ev_ ?_)) | with_reducible exact ti_)
   ·simp only [qde (qbk ha),qda (qbk ha)]
    repeat' (first | refine vs_ ?_ | ((first | refine vr_ ?_ | fail)<;>(try simp only [hc1,go_sem,↓reduceIte])) | ((first | (refine cs_ ?_ ?_<;>intro hc) | refine cj_ ?_ | simp (disch:=omega) only [encs_getN,qb])<;>(try refine ev_ ?_)) | with_reducible exact ti_)
end Go.Proofs.Ytlahgbhhejkgbaa
