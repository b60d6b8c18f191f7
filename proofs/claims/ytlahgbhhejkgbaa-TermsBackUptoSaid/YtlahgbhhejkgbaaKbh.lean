/- Texts of this proof, joined. -/
import Derived.Test.YtlahgbhhejkgbaaKay
import Derived.Test.YtlahgbhhejkgbaaKah
import Derived.Test.YtlahgbhhejkgbaaKbg
import Derived.Test.YtlahgbhhejkgbaaKaz
import Derived.Test.YtlahgbhhejkgbaaKbb
set_option linter.unusedVariables false
set_option linter.unusedSimpArgs false

/- terms: whether a variable stands in a type; functions' types -/
set_option maxRecDepth 4000
namespace Go.Proofs.Ytlahgbhhejkgbaa
open Go Go.RowKit Go.V

def hasN (v:Int) (t:Ty):Bool:=decide (t.con = []) && decide (t.var = v)
def qqj (v:Int) (u:Unit) (t:Ty) (_:Int):Unit×Bool:=(u,!hasN v t)
theorem has1 (v:Int) (t:Ty) (k:Int):VM Try.prog 49 (.blk [.int .i64 v]) (.blk [.int .i64 v]) [encY t,.int .i64 k,.ptr 0 0] (.bool (!hasN v t)):=by
 refine qbj c0bs 1 (by simp) (by simp) ?_
 repeat' (first | refine vs_ ?_ | ((first | refine vr_ ?_ | (refine cs_ ?_ ?_<;>intro hc) | refine cj_ ?_ | fail)<;>(try refine ev_ ?_)) | with_reducible exact ti_)
 all_goals simp_all [hasN]
mutual
theorem qbds (v:Int):∀ (t:Ty) (k:Int),(qbt (qqj v) t () k).2 = !decide (v∈varY t)
 | .mk c x l, k => by
   rw [qbt,varY]
   by_cases hc:c = []
   ·by_cases hx:x = v
    ·rw [if_neg (by simp [qqj,hasN,Ty.con,Ty.var,hc,hx])];simp [hc,hx]
    ·rw [if_pos (by simp [qqj,hasN,Ty.con,Ty.var,hc,hx]),qtp v l];simp [hc,Ne.symm hx]
   ·rw [if_pos (by simp [qqj,hasN,Ty.con,hc]),qtp v l];simp [hc]
theorem qtp (v:Int):∀ (l:List Ty) (u:Unit) (k:Int),(q7 (qqj v) l u k).2 = !decide (v∈qft l)
 | [],u,k=>by rw [q7,qft];simp
 | x :: r, u, k => by
   have h1:=qbds v x k
   rw [q7,qft]
   cases u
   by_cases hv:v∈varY x
   ·rw [if_neg (by rw [h1];simp [hv])];simp [hv]
   ·rw [if_pos (by rw [h1];simp [hv]),qtp v r];simp [hv]
end
theorem qmh (t:Ty) (v:Int):ql Try.prog 20 [encY t,.int .i64 v] (.bool (decide (v∈varY t))):=by
 refine qg c0bt (by simp) (by simp only [go_sem]) rfl fun hw=>?_
 have hwalk:=qf3 (S:=Unit) (st:=fun _=>.blk [.int .i64 v]) (step:=qqj v) (f:=49) (ok:=fun _ _=>True) (fun _=>rfl) (fun _ _ _ _ _=>trivial) (fun _ _ _=>trivial) (fun u t k _=>has1 v t k) t () 1 trivial
 rw [qbds] at hwalk
 repeat' (first | refine vs_ ?_ | ((first | refine vr_ ?_ | refine qbr 1 hwalk ?_ | (refine cs_ ?_ ?_<;>intro hc) | refine cj_ ?_ | fail)<;>(try refine ev_ ?_)) | with_reducible exact ti_)
 rw [Bool.not_not]

/-! functions' types -/
def fun2 (a b:Ty):Ty:=.mk arrW 0 [a,b]
def funY (l:List Ty) (to:Ty):Ty:=l.foldr fun2 to
theorem qbd5 {j:Nat} (h:j≤maxLen):IntKind.i64.wrap (((j + 1:Nat):Int) - 1 - 1) = (j:Int) - 1:=by
 unfold maxLen at h
 rw [qv (by omega) (by omega)];omega
theorem qg3 (l:List Ty):VCalls Try.prog 51 [] [.sl 3 (qk l)] (fun H1 o=>H1 = [.blk [.sl 3 (qk l)]]∧o = .val (.fn 70 [] [.ptr 0 0])):=by
 refine qbj c0bu 1 (by simp) (by simp) ?_
 repeat' (first | refine vs_ ?_ | ((first | refine vr_ ?_ | (refine cs_ ?_ ?_<;>intro hc) | refine cj_ ?_ | fail)<;>(try refine ev_ ?_)) | with_reducible exact ti_)
theorem qt3 {l:List Ty} {H:List Ent} {Q:List Ent->VO->Prop} (h:Q (H ++ [.blk [.sl 3 (qk l)]]) (.val (.fn 70 [] [.ptr H.length 0]))):VApp Try.prog H (.fn 51 [] []) [.sl 3 (qk l)] Q :=
 qu5 (qg3 l) (by simp only [AV.bds,AV.bd,qb3,Bool.and_true]) (by rintro _ _ ⟨rfl,rfl⟩;simpa [qnd,qt,sg',VO.ren,AV.ren,AV.rens,Ent.ren,qc2] using h)
section
variable {S:Type} {l:List Ty} {m i p:Nat} {hs:S->List Ent} {f:Ty->S->S} (hlen:∀ s,(hs s).length = m) (hbd:∀ s,(hs s).all (Ent.bd m) = true) (hi:i < m) (hpm:p < m) (hp:∀ s,ent (hs s) p = .blk [.sl 3 (qk l)])
 (app:∀ s k n (Q:List Ent->VO->Prop),Q (hs (f n s)) (.val (.bool true))->VApp Try.prog (hs s) (.opq i) [.int .i64 k,encY n] Q)
include hlen hbd hi hpm hp app
theorem qv3 (hl:l.length≤maxLen) (to:S):VCalls Try.prog 70 (hs to) [.opq i,.ptr p 0] (fun H' o=>H' = hs (l.foldr f to)∧o = .val (.tup [])):=by
 refine qbj c0bv m (by rw [hlen];exact Nat.le_refl _) (by simp) ?_
 have ht:∀ s,(hs s).take m = hs s:=fun s=>by rw [← hlen s];simp
 have h0:IntKind.i64.wrap ((l.length:Int) - 1) = (l.length:Int) - 1:=by unfold maxLen at hl;exact qv (by omega) (by omega)
 have hlt:∀ s,decide (i < (hs s).length) = true:=fun s=>by rw [hlen];exact decide_eq_true hi
 unfold k0bv
 repeat' (first | refine vs_ ?_ | ((first | refine vr_ ?_ | fail)<;>(try simp only [hp,h0,go_sem,↓reduceIte])) | ((first | (refine cs_ ?_ ?_<;>intro hc) | refine cj_ ?_ | simp (disch:=omega) only [encs_getN,qd])<;>(try refine ev_ ?_)) | with_reducible exact ti_)
 refine qbf (S:=Nat) (fun j=>j≤l.length) (fun j=>(⟨[(0,.opq i),(1,.ptr p 0),(3,.int .i64 ((j:Int) - 1))],[]⟩,hs ((l.drop j).foldr f to))) (fun j=>j) ?_ fun j hj=>?_
 ·refine qox l.length [] (Nat.le_refl _) ?_ ?_ ?_ ?_ ?_ ?_<;>simp only [List.drop_length]<;>(try refine ev_ ?_)<;>(try with_reducible exact ti_)<;>(try simp (disch:=omega) only [qd,and_true,true_and])
  ·rw [hlen,hlen];exact Nat.le_refl _
  ·rfl
  ·rw [hlen];exact hbd _
  ·rw [hlen,decide_eq_true hi,decide_eq_true hpm];exact ⟨rfl,rfl⟩
 ·cases j with
  | zero =>
    repeat' (first | refine vs_ ?_ | ((first | refine vr_ ?_ | fail)<;>(try simp only [hp,ht,go_sem,↓reduceIte])) | ((first | (refine cs_ ?_ ?_<;>intro hc) | refine cj_ ?_ | simp (disch:=omega) only [encs_getN,qd])<;>(try refine ev_ ?_)) | with_reducible exact ti_)
    ·exfalso;omega
    ·rw [hlen];exact ⟨Nat.le_refl _,hbd _⟩
  | succ j =>
    have hj':j < l.length:=by omega
    have hjj:((j + 1:Nat):Int) - 1 = (j:Int):=by omega
    have hd:=qbd5 (j:=j) (by omega)
    rw [hjj] at hd
    have hp':=qbc hj'
    rw [hjj]
    repeat' (first | refine vs_ ?_ | ((first | refine vr_ ?_ | fail)<;>(try simp only [hp,hp',hd,go_sem,↓reduceIte])) | ((first | simp (disch:=omega) only [hp'] | (refine cs_ ?_ ?_<;>intro hc) | refine cj_ ?_ | simp (disch:=omega) only [encs_getN,qd] | refine app _ _ _ _ ?_)<;>(try refine ev_ ?_)) | with_reducible exact ti_)
    refine qox j [] ⟨by omega,by omega⟩ ?_ ?_ ?_ ?_ ?_ ?_<;>simp only [qnp hj',List.foldr_cons]<;>(try refine ev_ ?_)<;>(try with_reducible exact ti_)<;>(try simp (disch:=omega) only [qd,and_true,true_and])
    ·rw [hlen,hlen];exact Nat.le_refl _
    ·rw [hlen];exact hbd _
    ·rw [hlen,decide_eq_true hi,decide_eq_true hpm];exact ⟨rfl,rfl⟩
end
def fnV (x:Bool×Ty):AV:=if x.1 = true then .lit 3 (qk x.2.args) else .sl 3 (qk x.2.args)
def fnS (a:Ty) (x:Bool×Ty):Bool×Ty:=(true,fun2 a x.2)
theorem q4f (l:List Ty) (to:Ty):(l.foldr fnS (false,to)).2 = funY l to:=by
 induction l with
 | nil=>rfl
 | cons a r ih=>rw [List.foldr_cons,fnS,ih];rfl
def funH (l:List Ty) (fn:FuncId) (asn bd:Code) (t0:Ty) (x:Bool×Ty):List Ent:=[.blk [.str x.2.con,.int .i64 x.2.var,fnV x],.blk [.str [],.int .i64 0,.nils],.blk [.sl 3 (qk l)],
 .lp ⟨.ready,none,fn,[9,10].toArray,asn,bd⟩ (qka 16 [(8,.fn 70 [] [.ptr 2 0]),(7,.sl 3 (qk l)),(4,.ptr 1 0),(3,.ptr 0 0),(0,.sl 3 (qk l)),(1,encY t0)])]
theorem qbbb (k:Nat) (x:Bool×Ty):(fnV x).bd k = true:=by rw [fnV];split<;>simp only [AV.bd,qb3]
theorem qyw (H:List Ent) (x:Bool×Ty):co H (.sl 3) (fnV x) = .sl 3 (qk x.2.args):=by rw [fnV];split<;>rfl
theorem qxy (x:Bool×Ty):(fnV x).leaf = true:=by rw [fnV];split<;>rfl
theorem qzu {l:List Ty} {t0:Ty} {fn:FuncId} {asn bd:Code} (ha:qbe Try.prog 16 asn = some qtm) (hb:qbe Try.prog 16 bd = some qrb) (x:Bool×Ty) (k:Int) (n:Ty) (Q:List Ent->VO->Prop) (h:Q (funH l fn asn bd t0 (fnS n x)) (.val (.bool true))):VApp Try.prog (funH l fn asn bd t0 x) (.opq 3) [.int .i64 k,encY n] Q:=by
 unfold funH at h ⊢
 refine qp9 (k:=4) rfl rfl qky ha hb (by simp) (by simp) (by simp) fun lp=>?_
 refine qr3 0 2 (.sl 3) rfl ?_
 simp only [List.getD_cons_succ,List.getD_cons_zero,qyw,List.set_cons_zero,List.set_cons_succ]
 repeat' (first | refine vs_ ?_ | ((first | refine vr_ ?_ | (refine cs_ ?_ ?_<;>intro hc) | refine cj_ ?_ | simp (disch:=omega) only [encs_getN,qd])<;>(try refine ev_ ?_)) | with_reducible exact ti_)
 exact h
theorem qq8 (l:List Ty) (to:Ty):ql Try.prog 24 [.sl 3 (qk l),encY to] (encY (funY l to)):=by
 refine qg c0bw (by simp) (by simp only [go_sem]) (qck 0 _) fun hw=>?_
 have hl:l.length≤maxLen:=by have:=hw.1.1;rwa [qcx] at this
 repeat' (first | refine vs_ ?_ | ((first | refine vr_ ?_ | refine qt3 ?_ | (refine cs_ ?_ ?_<;>intro hc) | refine cj_ ?_ | fail)<;>(try refine ev_ ?_)) | with_reducible exact ti_)
 refine q9k rfl (Nat.zero_le _) fun fn asn bd ha hb=>?_
 refine VCalls.mono (qv3 (hs:=funH l fn asn bd to) (f:=fnS) (m:=4) (i:=3) (p:=2) (fun _=>rfl) (fun x=>?_) (by omega) (by omega) (fun _=>rfl) (fun s k n Q h=>qzu ha hb s k n Q h) hl (false,to)) ?_
 ·unfold funH
  simp only [List.all_cons,List.all_nil,Ent.bd,AV.bds,AV.bd,qbbb,qb3,go_sem,qck]
 ·rintro H1 o ⟨rfl,rfl⟩
  have hf:=q4f l to
  generalize l.foldr fnS (false,to) = x at hf ⊢
  unfold funH
  rw [← hf]
  repeat' (first | refine vs_ ?_ | ((first | refine vr_ ?_ | fail)<;>(try simp only [qyw,qxy,go_sem,↓reduceIte])) | ((first | (refine cs_ ?_ ?_<;>intro hc) | refine cj_ ?_ | fail)<;>(try refine ev_ ?_)) | with_reducible exact ti_)
  all_goals exact qbk _
/-! what is split -/
def splF:Nat->Ty->List Ty×Ty
 | 0,t=>([],t)
 | n + 1,t=>if t.con = arrW∧t.args.length = 2 then (t.args.getD 0 Y0 :: (splF n (t.args.getD 1 Y0)).1,(splF n (t.args.getD 1 Y0)).2) else ([],t)
def splY (t:Ty):List Ty×Ty:=splF (dpY t) t
theorem qkn {t:Ty} {i:Nat} (h:i < t.args.length):dpY (t.args.getD i Y0) + 1≤dpY t:=by
 have:=qnr (qc4 h)
 rw [qr6 t];omega
theorem qh8:∀ (n m:Nat) (t:Ty),dpY t≤n->dpY t≤m->splF n t = splF m t
 | 0,m,t,h,_=>by have:=qej t;omega
 | n + 1,0,t,_,h=>by have:=qej t;omega
 | n + 1, m + 1, t, h1, h2 => by
   rw [splF,splF]
   split
   ·rename_i hc
    have:=qkn (t:=t) (i:=1) (by omega)
    rw [qh8 n m _ (by omega) (by omega)]
   ·rfl
theorem qgd (t:Ty):splY t = if t.con = arrW∧t.args.length = 2 then (t.args.getD 0 Y0 :: (splY (t.args.getD 1 Y0)).1,(splY (t.args.getD 1 Y0)).2) else ([],t):=by
 have hp:=qej t
 obtain ⟨n,hn⟩:∃ n,dpY t = n + 1:=⟨dpY t - 1,by omega⟩
 rw [splY,hn,splF]
 split
 ·rename_i hc
  have:=qkn (t:=t) (i:=1) (by omega)
  rw [qh8 n (dpY (t.args.getD 1 Y0)) _ (by omega) (Nat.le_refl _)];rfl
 ·rfl
def splA (p:List Ty×Ty):AV:=.tup [.sl 3 (qk p.1),encY p.2]
theorem qbl {l:List Ty} (h:l≠[]):qk l≠[]:=by cases l with | nil=>exact absurd rfl h | cons _ _=>simp [qk]
def qit (x:List Ty×Ty):AF×List Ent:=(⟨[(1,.ptr 0 0),(3,.ptr 1 0),(4,accV 2 (qk x.1))],[]⟩,[.blk (yc x.2),.blk [.str [],.int .i64 0,.nils]] ++ accE 3 (qk x.1))
def splI (t:Ty) (x:List Ty×Ty):Prop:=splY t = (x.1 ++ (splY x.2).1,(splY x.2).2)∧dpY x.2≤dpY t∧x.1.length + dpY x.2≤dpY t
set_option maxHeartbeats 1000000 in
theorem q1y {t:Ty} (hd:dpY t≤1000000):ql Try.prog 26 [encY t] (splA (splY t)):=by
 refine qg c0bx (by simp) (by simp only [go_sem]) (by simp only [splA,AV.bd,AV.bds,qb3,qck,Bool.and_true]) fun hw=>?_
 have hk:=qdc hw.1
 repeat' (first | refine vs_ ?_ | ((first | refine vr_ ?_ | (refine cs_ ?_ ?_<;>intro hc) | refine cj_ ?_ | simp (disch:=omega) only [encs_getN,qd])<;>(try refine ev_ ?_)) | with_reducible exact ti_)
 refine qbf (S:=List Ty×Ty) (splI t) qit (fun x=>dpY x.2) ?_ fun x hx=>?_
 ·refine qx ([],t) [0,1] ⟨rfl,Nat.le_refl _,by simp⟩ rfl (by simp) ?_ ?_ ?_<;>simp only [qit,qk,qb0,qb6,List.append_nil]<;>(try refine ev_ ?_)<;>(try with_reducible exact ti_)<;>(try simp (disch:=omega) only [qd,and_true,true_and])
 ·obtain ⟨a,u⟩:=x
  obtain ⟨h1,h2,h3⟩:=hx
  dsimp only at h1 h2 h3
  unfold qit
  by_cases hc1:u.con = [45,62]
  ·by_cases hc2:u.args.length = 2
   ·have hc2i:(u.args.length:Int) = 2:=by omega
    have hs:splY u = (u.args.getD 0 Y0 :: (splY (u.args.getD 1 Y0)).1,(splY (u.args.getD 1 Y0)).2):=by rw [qgd,if_pos ⟨hc1,hc2⟩]
    have hdp:=qkn (t:=u) (i:=1) (by omega)
    have g0:=qbc (l:=u.args) (i:=0) (by omega)
    have g1:=qbc (l:=u.args) (i:=1) (by omega)
    have hnx:splI t (a ++ [u.args.getD 0 Y0],u.args.getD 1 Y0):=⟨by rw [h1,hs];simp,by dsimp only;omega,by dsimp only;rw [List.length_append,List.length_singleton];omega⟩
    have hcap:qc3 (a.length + 1) 48 = True:=eq_true (by unfold qc3;omega)
    have hcap0:qc3 1 48 = True:=eq_true (by unfold qc3;omega)
    by_cases ha:a = []
    ·subst ha
     simp only [qk,qb0,qb6,List.append_nil]
     repeat' (first | refine vs_ ?_ | ((first | refine vr_ ?_ | fail)<;>(try simp only [hc1,hc2i,g0,g1,hcap0,go_sem,↓reduceIte])) | ((first | simp (disch:=omega) only [g0] | simp (disch:=omega) only [g1] | simp (disch:=omega) only [hcap0] | (refine cs_ ?_ ?_<;>intro hc) | refine cj_ ?_ | simp (disch:=omega) only [encs_getN,qd])<;>(try refine ev_ ?_)) | with_reducible exact ti_)
     refine qx ([u.args.getD 0 Y0],u.args.getD 1 Y0) [0,1,2] ⟨hnx,by dsimp only;omega⟩ rfl (by simp) ?_ ?_ ?_<;>simp only [qit,qk,qkj,qkr]<;>(try refine ev_ ?_)<;>(try with_reducible exact ti_)<;>(try simp (disch:=omega) only [qd,and_true,true_and])
    ·simp only [qdf (qbl ha),qdd (qbl ha)]
     repeat' (first | refine vs_ ?_ | ((first | refine vr_ ?_ | fail)<;>(try simp only [hc1,hc2i,g0,g1,hcap,go_sem,↓reduceIte])) | ((first | simp (disch:=omega) only [g0] | simp (disch:=omega) only [g1] | simp (disch:=omega) only [hcap] | (refine cs_ ?_ ?_<;>intro hc) | refine cj_ ?_ | simp (disch:=omega) only [encs_getN,qd])<;>(try refine ev_ ?_)) | with_reducible exact ti_)
     refine qx (a ++ [u.args.getD 0 Y0],u.args.getD 1 Y0) [0,1,3] ⟨hnx,by dsimp only;omega⟩ rfl (by simp) ?_ ?_ ?_<;>simp only [qit,← qes,qhq,qha,qcx]<;>(try refine ev_ ?_)<;>(try with_reducible exact ti_)<;>(try simp (disch:=omega) only [qd,and_true,true_and])
     all_goals (rw [qes,qc2];exact ⟨qb3 _ _,rfl⟩)
   ·have hc2i:¬ (u.args.length:Int) = 2:=by omega
    have hs:splY u = ([],u):=by rw [qgd,if_neg (fun h=>hc2 h.2)]
    have hfin:splA (splY t) = .tup [.sl 3 (qk a),.agg [.str [45,62],.int .i64 u.var,.sl 3 (qk u.args)]]:=by
     rw [h1,hs]
     show AV.tup [.sl 3 (qk (a ++ [])),encY u] = _
     rw [List.append_nil,← qbk u,hc1]
    rw [hfin]
    by_cases ha:a = []
    ·subst ha
     simp only [qk,qb0,qb6,List.append_nil]
     repeat' (first | refine vs_ ?_ | ((first | refine vr_ ?_ | fail)<;>(try simp only [hc1,hc2i,go_sem,↓reduceIte])) | ((first | (refine cs_ ?_ ?_<;>intro hc) | refine cj_ ?_ | simp (disch:=omega) only [encs_getN,qd])<;>(try refine ev_ ?_)) | with_reducible exact ti_)
    ·simp only [qdf (qbl ha),qdd (qbl ha)]
     repeat' (first | refine vs_ ?_ | ((first | refine vr_ ?_ | fail)<;>(try simp only [hc1,hc2i,go_sem,↓reduceIte])) | ((first | (refine cs_ ?_ ?_<;>intro hc) | refine cj_ ?_ | simp (disch:=omega) only [encs_getN,qd])<;>(try refine ev_ ?_)) | with_reducible exact ti_)
  ·have hs:splY u = ([],u):=by rw [qgd,if_neg (fun h=>hc1 h.1)]
   have hfin:splA (splY t) = .tup [.sl 3 (qk a),encY u]:=by
    rw [h1,hs]
    show AV.tup [.sl 3 (qk (a ++ [])),encY u] = _
    rw [List.append_nil]
   rw [hfin]
   by_cases ha:a = []
   ·subst ha
    simp only [qk,qb0,qb6,List.append_nil]
    repeat' (first | refine vs_ ?_ | ((first | refine vr_ ?_ | fail)<;>(try simp only [hc1,go_sem,↓reduceIte])) | ((first | (refine cs_ ?_ ?_<;>intro hc) | refine cj_ ?_ | simp (disch:=omega) only [encs_getN,qd])<;>(try refine ev_ ?_)) | with_reducible exact ti_)
   ·simp only [qdf (qbl ha),qdd (qbl ha)]
    repeat' (first | refine vs_ ?_ | ((first | refine vr_ ?_ | fail)<;>(try simp only [hc1,go_sem,↓reduceIte])) | ((first | (refine cs_ ?_ ?_<;>intro hc) | refine cj_ ?_ | simp (disch:=omega) only [encs_getN,qd])<;>(try refine ev_ ?_)) | with_reducible exact ti_)
set_option maxHeartbeats 1000000 in
theorem qnn {t:Ty} (hd:dpY t≤1000000):ql Try.prog 25 [encY t] (splA (splY t)):=by
 refine qg c0by (by simp) (by simp only [go_sem]) (by simp only [splA,AV.bd,AV.bds,qb3,qck,Bool.and_true]) fun hw=>?_
 have hk:=qdc hw.1
 repeat' (first | refine vs_ ?_ | ((first | refine vr_ ?_ | (refine cs_ ?_ ?_<;>intro hc) | refine cj_ ?_ | simp (disch:=omega) only [encs_getN,qd])<;>(try refine ev_ ?_)) | with_reducible exact ti_)
 refine qbf (S:=List Ty×Ty) (splI t) qit (fun x=>dpY x.2) ?_ fun x hx=>?_
 ·refine qx ([],t) [0,1] ⟨rfl,Nat.le_refl _,by simp⟩ rfl (by simp) ?_ ?_ ?_<;>simp only [qit,qk,qb0,qb6,List.append_nil]<;>(try refine ev_ ?_)<;>(try with_reducible exact ti_)<;>(try simp (disch:=omega) only [qd,and_true,true_and])
 ·obtain ⟨a,u⟩:=x
  obtain ⟨h1,h2,h3⟩:=hx
  dsimp only at h1 h2 h3
  unfold qit
  by_cases hc1:u.con = [45,62]
  ·by_cases hc2:u.args.length = 2
   ·have hc2i:(u.args.length:Int) = 2:=by omega
    have hs:splY u = (u.args.getD 0 Y0 :: (splY (u.args.getD 1 Y0)).1,(splY (u.args.getD 1 Y0)).2):=by rw [qgd,if_pos ⟨hc1,hc2⟩]
    have hdp:=qkn (t:=u) (i:=1) (by omega)
    have g0:=qbc (l:=u.args) (i:=0) (by omega)
    have g1:=qbc (l:=u.args) (i:=1) (by omega)
    have hnx:splI t (a ++ [u.args.getD 0 Y0],u.args.getD 1 Y0):=⟨by rw [h1,hs];simp,by dsimp only;omega,by dsimp only;rw [List.length_append,List.length_singleton];omega⟩
    have hcap:qc3 (a.length + 1) 48 = True:=eq_true (by unfold qc3;omega)
    have hcap0:qc3 1 48 = True:=eq_true (by unfold qc3;omega)
    by_cases ha:a = []
    ·subst ha
     simp only [qk,qb0,qb6,List.append_nil]
     repeat' (first | refine vs_ ?_ | ((first | refine vr_ ?_ | fail)<;>(try simp only [hc1,hc2i,g0,g1,hcap0,go_sem,↓reduceIte])) | ((first | simp (disch:=omega) only [g0] | simp (disch:=omega) only [g1] | simp (disch:=omega) only [hcap0] | (refine cs_ ?_ ?_<;>intro hc) | refine cj_ ?_ | simp (disch:=omega) only [encs_getN,qd])<;>(try refine ev_ ?_)) | with_reducible exact ti_)
     refine qx ([u.args.getD 0 Y0],u.args.getD 1 Y0) [0,1,2] ⟨hnx,by dsimp only;omega⟩ rfl (by simp) ?_ ?_ ?_<;>simp only [qit,qk,qkj,qkr]<;>(try refine ev_ ?_)<;>(try with_reducible exact ti_)<;>(try simp (disch:=omega) only [qd,and_true,true_and])
    ·simp only [qdf (qbl ha),qdd (qbl ha)]
     repeat' (first | refine vs_ ?_ | ((first | refine vr_ ?_ | fail)<;>(try simp only [hc1,hc2i,g0,g1,hcap,go_sem,↓reduceIte])) | ((first | simp (disch:=omega) only [g0] | simp (disch:=omega) only [g1] | simp (disch:=omega) only [hcap] | (refine cs_ ?_ ?_<;>intro hc) | refine cj_ ?_ | simp (disch:=omega) only [encs_getN,qd])<;>(try refine ev_ ?_)) | with_reducible exact ti_)
     refine qx (a ++ [u.args.getD 0 Y0],u.args.getD 1 Y0) [0,1,3] ⟨hnx,by dsimp only;omega⟩ rfl (by simp) ?_ ?_ ?_<;>simp only [qit,← qes,qhq,qha,qcx]<;>(try refine ev_ ?_)<;>(try with_reducible exact ti_)<;>(try simp (disch:=omega) only [qd,and_true,true_and])
     all_goals (rw [qes,qc2];exact ⟨qb3 _ _,rfl⟩)
   ·have hc2i:¬ (u.args.length:Int) = 2:=by omega
    have hs:splY u = ([],u):=by rw [qgd,if_neg (fun h=>hc2 h.2)]
    have hfin:splA (splY t) = .tup [.sl 3 (qk a),.agg [.str [45,62],.int .i64 u.var,.sl 3 (qk u.args)]]:=by
     rw [h1,hs]
     show AV.tup [.sl 3 (qk (a ++ [])),encY u] = _
     rw [List.append_nil,← qbk u,hc1]
    rw [hfin]
    by_cases ha:a = []
    ·subst ha
     simp only [qk,qb0,qb6,List.append_nil]
     repeat' (first | refine vs_ ?_ | ((first | refine vr_ ?_ | fail)<;>(try simp only [hc1,hc2i,go_sem,↓reduceIte])) | ((first | (refine cs_ ?_ ?_<;>intro hc) | refine cj_ ?_ | simp (disch:=omega) only [encs_getN,qd])<;>(try refine ev_ ?_)) | with_reducible exact ti_)
    ·simp only [qdf (qbl ha),qdd (qbl ha)]
     repeat' (first | refine vs_ ?_ | ((first | refine vr_ ?_ | fail)<;>(try simp only [hc1,hc2i,go_sem,↓reduceIte])) | ((first | (refine cs_ ?_ ?_<;>intro hc) | refine cj_ ?_ | simp (disch:=omega) only [encs_getN,qd])<;>(try refine ev_ ?_)) | with_reducible exact ti_)
  ·have hs:splY u = ([],u):=by rw [qgd,if_neg (fun h=>hc1 h.1)]
   have hfin:splA (splY t) = .tup [.sl 3 (qk a),encY u]:=by
    rw [h1,hs]
    show AV.tup [.sl 3 (qk (a ++ [])),encY u] = _
    rw [List.append_nil]
   rw [hfin]
   by_cases ha:a = []
   ·subst ha
    simp only [qk,qb0,qb6,List.append_nil]
    repeat' (first | refine vs_ ?_ | ((first | refine vr_ ?_ | fail)<;>(try simp only [hc1,go_sem,↓reduceIte])) | ((first | (refine cs_ ?_ ?_<;>intro hc) | refine cj_ ?_ | simp (disch:=omega) only [encs_getN,qd])<;>(try refine ev_ ?_)) | with_reducible exact ti_)
   ·simp only [qdf (qbl ha),qdd (qbl ha)]
    repeat' (first | refine vs_ ?_ | ((first | refine vr_ ?_ | fail)<;>(try simp only [hc1,go_sem,↓reduceIte])) | ((first | (refine cs_ ?_ ?_<;>intro hc) | refine cj_ ?_ | simp (disch:=omega) only [encs_getN,qd])<;>(try refine ev_ ?_)) | with_reducible exact ti_)
set_option maxRecDepth 4000

set_option maxRecDepth 4000

set_option maxRecDepth 4000

set_option maxRecDepth 4000

def wQ:Ty:=⟨[84],0,[⟨[],-1,[]⟩]⟩
def F16:Ty:=fun2 Y0 (fun2 wQ Y0)
def R16:Ty:=fun2 Y0 wQ
theorem tx1:qbn R16 = [97,32,45,62,32,84,32,63,48]:=by decide +kernel
theorem tx2:qbn F16 = [97,32,45,62,32,84,32,63,48,32,45,62,32,97]:=by decide +kernel
theorem rr1:qbd [97,32,45,62,32,84,32,63,48] = (R16,⟨[],0,false⟩):=by rfl
theorem rr2:qbd [97,32,32,45,62,32,98] = (⟨[],0,[⟨[],0,[]⟩]⟩,⟨[32,45,62,32,98],0,true⟩):=by rfl
theorem ry1:qe0 [97,32,45,62,32,84,32,63,48] = (R16,0):=by rw [qe0,rr1];exact (if_neg (by decide)).trans ((if_pos rfl).trans (if_pos tx1))
theorem ry2:qe0 [97,32,32,45,62,32,98] = (Y0,5):=by rw [qe0,rr2];exact if_pos rfl
theorem qx2:ql Try.prog 29 [.str [97,32,45,62,32,84,32,63,48]] (.tup [encY R16,.int .i64 0]):=by
 have h:=qiy (s:=[97,32,45,62,32,84,32,63,48]) (qrx rr1 (by decide) (by decide) (by decide) (by decide) (by rw [tx1];decide))
 rwa [ry1] at h
theorem qu2:ql Try.prog 29 [.str [97,32,32,45,62,32,98]] (.tup [encY Y0,.int .i64 5]):=by
 have h:=qiy (s:=[97,32,32,45,62,32,98]) (qrx rr2 (by decide) (by decide) (by decide) (by decide) (by decide +kernel))
 rwa [ry2] at h
theorem q7a:ql Try.prog 24 [.sl 3 (qk [Y0,wQ]),encY Y0] (encY F16):=qq8 [Y0,wQ] Y0
theorem qxk:ql Try.prog 25 [encY F16] (.tup [.sl 3 (qk [Y0,wQ]),encY Y0]):=qnn (t:=F16) (by decide)
theorem qv2:ql Try.prog 31 [encY R16] (.str [97,32,45,62,32,84,32,63,48]):=by
 have h:=qf1 (t:=R16) (by decide) (by decide) (by rw [tx1];decide)
 rwa [tx1] at h
theorem qxj:ql Try.prog 31 [encY F16] (.str [97,32,45,62,32,84,32,63,48,32,45,62,32,97]):=by
 have h:=qf1 (t:=F16) (by decide) (by decide) (by rw [tx2];decide)
 rwa [tx2] at h
theorem q4p:ql Try.prog 22 [encY Y0,encY Y0] (.bool true):=qpm Y0 Y0
def wArr:Ty:=⟨[45,62],0,[]⟩
def wFix:Ty:=⟨[33,51],0,[]⟩
theorem q0f:ql Try.prog 11 [encY F16] (.bool true):=by
 have h:=qc9 (t:=F16) (by decide) (by decide)
 rwa [show qbz F16 = true by decide +kernel] at h
theorem q2j:ql Try.prog 11 [encY wArr] (.bool false):=by
 have h:=qc9 (t:=wArr) (by decide) (by decide)
 rwa [show qbz wArr = false by decide +kernel] at h
theorem qzp:ql Try.prog 11 [encY wFix] (.bool true):=by
 have h:=qc9 (t:=wFix) (by decide) (by decide)
 rwa [show qbz wFix = true by decide +kernel] at h
theorem q6g:ql Try.prog 13 [encY F16] (.int .i64 6):=by
 have h:=qp1 F16
 rw [qll F16 0 1 (by decide) (by decide)] at h
 exact h
theorem qxb:ql Try.prog 15 [encY wQ] (.int .i64 2):=by
 have h:=qmx wQ
 rw [qk8 wQ 0 1 (by decide) (by decide) (by decide)] at h
 exact h
theorem q3f:ql Try.prog 20 [encY wQ,.int .i64 (-1)] (.bool true):=qmh wQ (-1)
theorem q3e:ql Try.prog 20 [encY wQ,.int .i64 0] (.bool false):=qmh wQ 0
theorem q5i:ql Try.prog 18 [encY F16] (.sl 1 (ints [0,-1])):=qi5 F16 (by decide)
theorem q1a:ql Try.prog 17 [.sl 1 (ints [0,-1]),.sl 1 (ints [0,-1])] (.bool true):=qp0 [0,-1] [0,-1]
theorem qbs:ql Try.prog 10 [] (.bool true):=by
 refine qg c0bz (by simp) rfl rfl fun hw=>?_
 have h2:((qk [Y0,wQ]).length:Int) = 2:=rfl
 repeat' (first | refine vs_ ?_ | ((first | refine vr_ ?_ | fail)<;>(try simp only [h2,go_sem,↓reduceIte])) | ((first | (refine cs_ ?_ ?_<;>intro hc) | refine cj_ ?_ | fail | refine qa q7a fun _=>?_ | refine qa qxk fun _=>?_ | refine qa qx2 fun _=>?_ | refine qa qu2 fun _=>?_ | refine qa qv2 fun _=>?_ | refine qa q4p fun _=>?_ | refine qa qxj fun _=>?_ | refine qa q0f fun _=>?_ | refine qa q2j fun _=>?_ | refine qa qzp fun _=>?_ | refine qa q6g fun _=>?_ | refine qa qxb fun _=>?_ | refine qa q3f fun _=>?_ | refine qa q3e fun _=>?_ | refine qa q5i fun _=>?_ | refine qa q1a fun _=>?_)<;>(try refine ev_ ?_)) | with_reducible exact ti_)
 exact absurd rfl hc
set_option maxRecDepth 4000

theorem qgp {f:FuncId} {args:List AV} {r r':AV} (h:ql Try.prog f args r) (e:r = r'):ql Try.prog f args r':=e ▸ h
theorem qec {l:List Ty} (h:qfe l = true):ql Try.prog 9 [.sl 3 (qk l)] (.int .i64 1):=qgp (qbal l) (by rw [h];rfl)
theorem qyy {l:List Ty} (h:qfe l = false):ql Try.prog 9 [.sl 3 (qk l)] (.int .i64 0):=qgp (qbal l) (by rw [h];rfl)
theorem qre {l:List Ty} (hl:l.length≤maxLen) (h:qfe l = true) {x:Ty} (hx:x∈l):szY x≤20000∧dpY x≤300:=by
 have:=q10 hl h
 have h1:=q23 hx
 have h2:=qnr hx
 omega
end Go.Proofs.Ytlahgbhhejkgbaa
