/- Texts of this proof, joined. -/
import Derived.Test.YtkenggenkmfopaaGreatFah
import Derived.Test.YtkenggenkmfopaaGreatFak
set_option linter.unusedVariables false
set_option linter.unusedSimpArgs false

/- pairs of a variable and a type, as data -/
namespace Go.V
open Go Go.RowKit

structure Pr where
 v:Int
 ty:Ty
def encR(p:Pr):AV:=.agg [.int .i64 p.v,.str p.ty.con,.int .i64 p.ty.var,.sl 3 (qf p.ty.args)]
def qz(l:List Pr):List AV:=l.map encR
def R0:Pr:=⟨0,Y0⟩
abbrev prc(p:Pr):List AV:=[.int .i64 p.v,.str p.ty.con,.int .i64 p.ty.var,.sl 3 (qf p.ty.args)]
theorem q5t(p:Pr):AV.agg [.int .i64 p.v,.str p.ty.con,.int .i64 p.ty.var,.sl 3 (qf p.ty.args)]=encR p:=rfl
theorem qzz(p:Pr):(encR p).cells=prc p:=rfl
theorem qj9(k:Nat)(p:Pr):(encR p).bd k=true:=by simp only[encR,AV.bd,AV.bds,qbm,Bool.and_true]
theorem qcd(k:Nat)(l:List Pr):AV.bds k (qz l)=true:=by rw[qz,qc2,List.all_map,List.all_eq_true];exact fun x _=>qj9 k x
theorem qrk(σ:Nat->Nat)(p:Pr):(encR p).ren σ=encR p:=ren_same (m:=0) (fun i hi=>by omega) _ (qj9 0 p)
theorem qi5(σ:Nat->Nat)(l:List Pr):AV.rens σ (qz l)=qz l:=qp (m:=0) (fun i hi=>by omega) _ (qcd 0 l)
theorem qbys(H:List Ent)(p:Pr):co H (.agg [.id,.id,.id,.sl 3]) (encR p)=encR p:=by
 simp only[encR,qir,qeq,qf5,qom,qeh]
theorem q4o(p:Pr):rdCo (.agg [.id,.id,.id,.sl 3]) (encR p)=[]:=by
 simp only[encR,qeg,qc0,qdi,qf1,qcz,List.append_nil]
theorem qbe2(p:Pr):(encR p).isAgg=true:=rfl
theorem qsc(p:Pr):(encR p).leaf=false:=rfl
theorem qbk(l:List Pr):(qz l).length=l.length:=by simp[qz]
theorem qs{l:List Pr}{i:Nat}(h:i<l.length):(qz l).getD i .junk=encR (l.getD i R0):=by
 rw[qz,List.getD_eq_getElem?_getD,List.getElem?_map,List.getElem?_eq_getElem h,List.getD_eq_getElem?_getD,List.getElem?_eq_getElem h];rfl
theorem qfa{l:List Pr}{i:Nat}(h:i<l.length):l.getD i R0∈l:=by
 rw[List.getD_eq_getElem?_getD,List.getElem?_eq_getElem h];exact List.getElem_mem h
theorem qccv{l:List Pr}{i:Nat}(h:i<l.length):l.drop i=l.getD i R0::l.drop (i+1):=by
 rw[List.drop_eq_getElem_cons h,List.getD_eq_getElem?_getD,List.getElem?_eq_getElem h];rfl
theorem qkk(l:List Pr)(p:Pr):qz l++[encR p]=qz (l++[p]):=by simp[qz]
theorem q8s(p:Pr):[encR p]=qz [p]:=rfl
theorem qdj:qz []=[]:=rfl
theorem qhw{l:List Pr}(h:l≠[]):qz l≠[]:=by cases l with | nil=>exact absurd rfl h | cons _ _=>simp[qz]
theorem q2e(n:Nat)(l:List Pr):(qz l).take n=qz (l.take n):=by simp[qz]
theorem q1z(n:Nat)(l:List Pr):(qz l).drop n=qz (l.drop n):=by simp[qz]
theorem qbjr(b:Bool)(n off:Nat)(p:Pr):fldv b n off (encR p)=ldc b n off (prc p):=rfl
theorem qlp{l:List Pr}{n:Nat}(h:(AV.sl n (qz l)).wf):l.length≤maxLen∧∀p∈l,(encR p).wf:=by
 refine⟨by have:=h.1;rwa [qbk] at this,fun p hp=>(q81 _).1 h.2 _ ?_⟩
 rw[qz];exact List.mem_map_of_mem hp
attribute [go_sem] prc qbjr q4o qj9 qcd qrk qi5 qbys qbe2 qzz q5t qsc qbk q2e q1z
end Go.V

/-
 Rows of pairs by rising variables; types put in the place of variables.
-/
namespace Go.V
open Go Go.RowKit

def risR:List Pr->Prop
 | []=>True
 | p::r=>(∀q∈r,p.v<q.v)∧risR r
def qm(v:Int):List Pr->Option Ty
 | []=>none
 | p::r=>if p.v=v then some p.ty else qm v r
def ahdR(v:Int):List Pr->Nat
 | []=>0
 | p::r=>if p.v<v then ahdR v r+1 else 0
def insR(v:Int)(t:Ty)(l:List Pr):List Pr:=l.take (ahdR v l)++⟨v,t⟩::l.drop (ahdR v l)
theorem qoa(v:Int):∀l,ahdR v l≤l.length
 | []=>Nat.le_refl _
 | p::r=>by rw[ahdR];have:=qoa v r;split<;>simp<;>omega
theorem qvi(v:Int):∀(l:List Pr) (k:Nat),k<ahdR v l->(l.getD k R0).v<v
 | [],k,h=>by simp[ahdR] at h
 | p :: r, k, h => by
   rw[ahdR] at h
   split at h
   ·rename_i hp
    cases k with
    | zero=>exact hp
    | succ k=>exact qvi v r k (by omega)
   ·omega
theorem q22{v:Int}:∀{l:List Pr},risR l->∀(k:Nat),ahdR v l≤k->k<l.length->v≤(l.getD k R0).v
 | [],_,k,_,h=>by simp at h
 | p :: r, hr, k, h, hk => by
   rw[ahdR] at h
   split at h
   ·cases k with
    | zero=>omega
    | succ k=>exact q22 hr.2 k (by omega) (by simpa using hk)
   ·rename_i hp
    cases k with
    | zero=>show v≤p.v;omega
    | succ k=>have:=hr.1 _ (qfa (l:=r) (i:=k) (by simpa using hk));show v≤(r.getD k R0).v;omega
theorem qqs{v:Int}:∀{l:List Pr},(∀p∈l,p.v≠v)->qm v l=none
 | [],_=>rfl
 | p::r,h=>by rw[qm,if_neg (h p (by simp)),qqs fun q hq=>h q (by simp[hq])]
theorem qcq{v:Int}:∀{l:List Pr} {t:Ty},qm v l=some t->∃p∈l,p.v=v∧p.ty=t
 | p :: r, t, h => by
   rw[qm] at h
   split at h
   ·rename_i hp;exact⟨p,by simp,hp,by simpa using h⟩
   ·obtain⟨q,h1,h2⟩:=qcq h;exact⟨q,by simp[h1],h2⟩
theorem qkl{v:Int}:∀{l:List Pr},qm v l=none->∀p∈l,p.v≠v
 | [],_,p,hp=>by simp at hp
 | q :: r, h, p, hp => by
   rw[qm] at h
   split at h
   ·cases h
   ·rename_i hq
    rcases List.mem_cons.1 hp with rfl | hp
    ·exact hq
    ·exact qkl h p hp
theorem qlq{v:Int}:∀{l:List Pr},risR l->qm v l=if ahdR v l<l.length∧(l.getD (ahdR v l) R0).v=v then some (l.getD (ahdR v l) R0).ty else none
 | [],_=>by simp[qm,ahdR]
 | p :: r, hr => by
   rw[qm,ahdR]
   by_cases h1:p.v<v
   ·rw[if_pos h1,if_neg (by omega),qlq hr.2]
    simp only[List.length_cons,List.getD_cons_succ,Nat.add_lt_add_iff_right]
   ·rw[if_neg h1]
    by_cases h2:p.v=v
    ·rw[if_pos h2,if_pos ⟨by simp,h2⟩];rfl
    ·rw[if_neg h2,if_neg (fun h=>h2 h.2)]
     exact qqs fun q hq=>by have:=hr.1 q hq;omega
theorem qiu(v:Int)(t:Ty)(p:Pr)(r:List Pr):insR v t (p::r)=if p.v<v then p::insR v t r else ⟨v,t⟩::p::r:=by
 rw[insR,ahdR];split<;>rfl
theorem qrm(v:Int)(t:Ty):insR v t []=[⟨v,t⟩]:=rfl
theorem insR_mem{v:Int}{t:Ty}{q:Pr}:∀{l:List Pr},q∈insR v t l↔q=⟨v,t⟩∨q∈l
 | []=>by simp[qrm]
 | p :: r => by
   rw[qiu]
   split
   ·simp only[List.mem_cons,insR_mem (l:=r)]
    constructor
    ·rintro (h | h | h)<;>simp[h]
    ·rintro (h | h | h)<;>simp[h]
   ·simp
theorem qzt{v:Int}{t:Ty}:∀{l:List Pr},risR l->qm v l=none->risR (insR v t l)
 | [],_,_=>⟨fun q hq=>by simp at hq,trivial⟩
 | p :: r, hr, hn => by
   have h1:=qkl hn p (by simp)
   rw[qm,if_neg h1] at hn
   rw[qiu]
   split
   ·rename_i h
    refine⟨fun q hq=>?_,qzt hr.2 hn⟩
    rcases insR_mem.1 hq with rfl | hq
    ·exact h
    ·exact hr.1 q hq
   ·rename_i h
    refine⟨fun q hq=>?_,hr⟩
    rcases List.mem_cons.1 hq with rfl | hq
    ·show v<q.v;omega
    ·have:=hr.1 q hq;show v<q.v;omega
theorem qtl{v x:Int}{t:Ty}:∀{l:List Pr},qm v l=none->qm x (insR v t l)=if x=v then some t else qm x l
 | [], _ => by
   rw[qrm,qm,qm]
   by_cases h:x=v
   ·rw[if_pos h.symm,if_pos h]
   ·rw[if_neg (fun h'=>h h'.symm),if_neg h];rfl
 | p :: r, hn => by
   have h1:=qkl hn p (by simp)
   have hn':=hn
   rw[qm,if_neg h1] at hn'
   rw[qiu]
   split
   ·rw[qm,qm,qtl hn']
    by_cases h:p.v=x
    ·rw[if_pos h,if_pos h,if_neg (fun h'=>h1 (h.trans h'))]
    ·rw[if_neg h,if_neg h]
   ·rw[qm]
    by_cases h:x=v
    ·rw[if_pos h.symm,if_pos h]
    ·rw[if_neg (fun h'=>h h'.symm),if_neg h]
theorem qq2(v:Int)(t:Ty)(l:List Pr):(insR v t l).length=l.length+1:=by
 have:=qoa v l
 rw[insR,List.length_append,List.length_cons,List.length_take,List.length_drop];omega
theorem qy3{v:Int}{t:Ty}:∀{l:List Pr},(∀p∈l,p.v<v)->insR v t l=l++[⟨v,t⟩]
 | [],_=>rfl
 | p::r,h=>by rw[qiu,if_pos (h p (by simp)),qy3 fun q hq=>h q (by simp[hq])];rfl

/-! types in the place of variables -/
mutual
def putY(s:List Pr):Ty->Ty
 | .mk c v l=>if c=[] then(match qm v s with | some u=>u | none=>.mk c v l) else .mk c v (qbz s l)
def qbz(s:List Pr):List Ty->List Ty
 | []=>[]
 | x::r=>putY s x::qbz s r
end
mutual
def sizR(s:List Pr):Ty->Nat
 | .mk c v l=>if c=[] then(match qm v s with | some u=>szY u | none=>1) else 1+qdx s l
def qdx(s:List Pr):List Ty->Nat
 | []=>0
 | x::r=>sizR s x+qdx s r
end
theorem qhh(s:List Pr):∀l,qbz s l=l.map (putY s)
 | []=>by rw[qbz];rfl
 | x::r=>by rw[qbz,qhh s r];rfl
theorem qjm(s:List Pr)(l:List Ty):(qbz s l).length=l.length:=by rw[qhh];simp
theorem qq3(s:List Pr)(t:Ty):putY s t=if t.con=[] then(match qm t.var s with | some u=>u | none=>t) else .mk t.con t.var (qbz s t.args):=by cases t;rw[putY];rfl
theorem qrc(s:List Pr)(t:Ty):sizR s t=if t.con=[] then(match qm t.var s with | some u=>szY u | none=>1) else 1+qdx s t.args:=by cases t;rw[sizR];rfl
mutual
def bare:Ty->Prop
 | .mk c v l=>(c=[]->l=[])∧qif l
def qif:List Ty->Prop
 | []=>True
 | x::r=>bare x∧qif r
end
theorem qcak(t:Ty):bare t↔(t.con=[]->t.args=[])∧qif t.args:=by cases t;rw[bare];rfl
theorem qtz:∀{l:List Ty},qif l->∀x∈l,bare x
 | [],_,x,h=>by simp at h
 | y :: r, hb, x, h => by
   rcases List.mem_cons.1 h with rfl | h
   ·exact hb.1
   ·exact qtz hb.2 x h
mutual
theorem qre(s:List Pr):∀t,bare t->szY (putY s t)=sizR s t
 | .mk c v l, h => by
   rw[bare] at h
   rw[putY,sizR]
   split
   ·rename_i hc
    cases qm v s with
    | some u=>rfl
    | none=>rw[h.1 hc,szY,szYs]
   ·rw[szY,qzg s l h.2]
theorem qzg(s:List Pr):∀l,qif l->szYs (qbz s l)=qdx s l
 | [],_=>by rw[qbz,szYs,qdx]
 | x::r,h=>by rw[qbz,szYs,qdx,qre s x h.1,qzg s r h.2]
end
mutual
def bput(s:List Pr):Ty->Int->Int->Int×Ty
 | .mk c v l, b, k => match (if c = [] then qm v s else none) with
   | some u=>(if 101<k+dpY u then -1 else b-szY u,u)
   | none=>((qdq s l (b-1) (k+1)).1,match (qdq s l (b-1) (k+1)).2 with | some l'=>.mk c v l' | none=>.mk c v l)
def qdq(s:List Pr):List Ty->Int->Int->Int×Option (List Ty)
 | [],b,k=>(b,some [])
 | x::r,b,k=>if b<0 then(b,none) else((qdq s r (bput s x b k).1 k).1,(qdq s r (bput s x b k).1 k).2.map ((bput s x b k).2 :: ·))
end
theorem qbpe(s:List Pr)(t:Ty)(b k:Int):bput s t b k=match (if t.con=[] then qm t.var s else none) with
 | some u=>(if 101<k+dpY u then -1 else b-szY u,u)
 | none=>((qdq s t.args (b-1) (k+1)).1,match (qdq s t.args (b-1) (k+1)).2 with | some l'=>.mk t.con t.var l' | none=>t):=by cases t;rw[bput];rfl
theorem q6f(s:List Pr){b:Int}(h:b<0):∀(l:List Ty) (k:Int),(qdq s l b k).1=b
 | [],k=>by rw[qdq]
 | x::r,k=>by rw[qdq,if_pos h]
def okR(s:List Pr):Prop:=∀p∈s,szY p.ty≤4096∧dpY p.ty≤100
theorem qj1{s:List Pr}(h:okR s){v:Int}{u:Ty}(hu:qm v s=some u):szY u≤4096∧dpY u≤100:=by
 obtain⟨p,h1,_,rfl⟩:=qcq hu
 exact h p h1
mutual
theorem qxu(s:List Pr):∀(t:Ty) (b k:Int),bare t->0≤b->k+dpY t≤101 →
 (((sizR s t:Int)≤b∧k+dpY (putY s t)≤101)->bput s t b k=(b-sizR s t,putY s t))∧(¬((sizR s t:Int)≤b∧k+dpY (putY s t)≤101)->(bput s t b k).1<0)
 | .mk c v l, b, k, hb, h0, hk => by
   rw[bare] at hb
   rw[dpY] at hk
   rw[bput,sizR,putY]
   by_cases hc:c=[]
   ·simp only[if_pos hc]
    cases hl:qm v s with
    | some u =>
      simp only
      refine⟨fun h=>by rw[if_neg (by omega)],fun h=>?_⟩
      split<;>omega
    | none =>
      have h1:=hb.1 hc
      subst h1
      simp only[qdq,dpY,dpYs]
      refine⟨fun h=>by simp,fun h=>?_⟩
      omega
   ·simp only[if_neg hc]
    rw[dpY]
    have ih:=qs6 s l (b-1) (k+1) hb.2 (by omega)
    refine⟨fun h=>?_,fun h=>?_⟩
    ·rw[ih.1 ⟨by omega,by omega,by omega⟩]
     simp only
     congr 1
     omega
    ·exact ih.2 (by omega)
theorem qs6(s:List Pr):∀(l:List Ty) (b k:Int),qif l->k+dpYs l≤101 →
 ((0≤b∧(qdx s l:Int)≤b∧k+dpYs (qbz s l)≤101)->qdq s l b k=(b-qdx s l,some (qbz s l)))∧(¬(0≤b∧(qdx s l:Int)≤b∧k+dpYs (qbz s l)≤101)->(qdq s l b k).1<0)
 | [], b, k, hb, hk => by
   rw[qdq,qdx,qbz,dpYs] at *
   refine⟨fun h=>by simp,fun h=>?_⟩
   simp only
   omega
 | x :: r, b, k, hb, hk => by
   rw[qif] at hb
   rw[dpYs] at hk
   rw[qdq,qdx,qbz,dpYs]
   by_cases h0:b<0
   ·rw[if_pos h0]
    exact⟨fun h=>by omega,fun _=>h0⟩
   ·rw[if_neg h0]
    have ih1:=qxu s x b k hb.1 (by omega) (by omega)
    by_cases h1:(sizR s x:Int)≤b∧k+dpY (putY s x)≤101
    ·rw[ih1.1 h1]
     have ih2:=qs6 s r (b-sizR s x) k hb.2 (by omega)
     refine⟨fun h=>?_,fun h=>?_⟩
     ·rw[ih2.1 ⟨by omega,by omega,by omega⟩]
      simp only[Option.map_some]
      congr 1
      omega
     ·exact ih2.2 (by omega)
    ·have h2:=ih1.2 h1
     rw[q6f s h2]
     refine⟨fun h=>?_,fun h=>h2⟩
     exfalso;omega
end
mutual
theorem qzr{s:List Pr}(hs:okR s):∀(t:Ty) (b k:Int),0≤b->b≤4096->-4096≤(bput s t b k).1∧(bput s t b k).1≤4096
 | .mk c v l, b, k, h0, h1 => by
   rw[bput]
   split
   ·rename_i u hu
    have hl:qm v s=some u:=by
     by_cases hc:c=[]
     ·rwa [if_pos hc] at hu
     ·rw[if_neg hc] at hu;cases hu
    have:=qj1 hs hl
    simp only
    split<;>omega
   ·simp only
    exact qu2 hs l (b-1) (k+1) (by omega) (by omega)
theorem qu2{s:List Pr}(hs:okR s):∀(l:List Ty) (b k:Int),-4096≤b->b≤4096->-4096≤(qdq s l b k).1∧(qdq s l b k).1≤4096
 | [],b,k,h0,h1=>by rw[qdq];exact⟨h0,h1⟩
 | x :: r, b, k, h0, h1 => by
   rw[qdq]
   split
   ·exact⟨h0,h1⟩
   ·rename_i h
    have:=qzr hs x b k (by omega) h1
    exact qu2 hs r _ k this.1 this.2
end

/-! one behind the other -/
mutual
theorem qxr{s u w:List Pr}(h:∀v,qm v w=match qm v s with | some t=>some (putY u t) | none=>qm v u):∀t,bare t->putY u (putY s t)=putY w t
 | .mk c v l, hb => by
   rw[bare] at hb
   rw[putY,putY]
   by_cases hc:c=[]
   ·rw[if_pos hc,if_pos hc,h v]
    cases hl:qm v s with
    | some t=>rfl
    | none =>
      simp only
      rw[putY,if_pos hc]
   ·rw[if_neg hc,if_neg hc,putY,if_neg hc,qtg h l hb.2]
theorem qtg{s u w:List Pr}(h:∀v,qm v w=match qm v s with | some t=>some (putY u t) | none=>qm v u):∀l,qif l->qbz u (qbz s l)=qbz w l
 | [],_=>by rw[qbz,qbz,qbz]
 | x::r,hb=>by rw[qbz,qbz,qbz,qxr h x hb.1,qtg h r hb.2]
end
end Go.V
