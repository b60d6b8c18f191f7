/- Texts of this proof, joined. -/
import Derived.Test.YtkenggenkmfopaaGreatIah
import Derived.Test.YtkenggenkmfopaaGreatIao
set_option linter.unusedVariables false
set_option linter.unusedSimpArgs false

/- pairs of a variable and a type, as data -/
namespace Go.V
open Go Go.RowKit

structure Pr where
 v:Int
 ty:Ty
def encR(p:Pr):AV:=.agg [.int .i64 p.v,.str p.ty.con,.int .i64 p.ty.var,.sl 3 (qh p.ty.args)]
def qck(l:List Pr):List AV:=l.map encR
def R0:Pr:=⟨0,Y0⟩
abbrev prc(p:Pr):List AV:=[.int .i64 p.v,.str p.ty.con,.int .i64 p.ty.var,.sl 3 (qh p.ty.args)]
theorem q40(p:Pr):AV.agg [.int .i64 p.v,.str p.ty.con,.int .i64 p.ty.var,.sl 3 (qh p.ty.args)]=encR p:=rfl
theorem q34(p:Pr):(encR p).cells=prc p:=rfl
theorem qlb(k:Nat)(p:Pr):(encR p).bd k=true:=by simp only[encR,AV.bd,AV.bds,qbd,Bool.and_true]
theorem qem(k:Nat)(l:List Pr):AV.bds k (qck l)=true:=by rw[qck,qb6,List.all_map,List.all_eq_true];exact fun x _=>qlb k x
theorem qsa(σ:Nat->Nat)(p:Pr):(encR p).ren σ=encR p:=ren_same (m:=0) (fun i hi=>by omega) _ (qlb 0 p)
theorem qm3(σ:Nat->Nat)(l:List Pr):AV.rens σ (qck l)=qck l:=qs (m:=0) (fun i hi=>by omega) _ (qem 0 l)
theorem qb91(H:List Ent)(p:Pr):co H (.agg [.id,.id,.id,.sl 3]) (encR p)=encR p:=by
 simp only[encR,qef,qcf,qcx,qgq,qcj]
theorem q6l(p:Pr):rdCo (.agg [.id,.id,.id,.sl 3]) (encR p)=[]:=by
 simp only[encR,qce,qbi,qbq,qdh,qbk,List.append_nil]
theorem qbdp(p:Pr):(encR p).isAgg=true:=rfl
theorem qur(p:Pr):(encR p).leaf=false:=rfl
theorem qf8(l:List Pr):(qck l).length=l.length:=by simp[qck]
theorem qc3{l:List Pr}{i:Nat}(h:i<l.length):(qck l).getD i .junk=encR (l.getD i R0):=by
 rw[qck,List.getD_eq_getElem?_getD,List.getElem?_map,List.getElem?_eq_getElem h,List.getD_eq_getElem?_getD,List.getElem?_eq_getElem h];rfl
theorem qhz{l:List Pr}{i:Nat}(h:i<l.length):l.getD i R0∈l:=by
 rw[List.getD_eq_getElem?_getD,List.getElem?_eq_getElem h];exact List.getElem_mem h
theorem qck5{l:List Pr}{i:Nat}(h:i<l.length):l.drop i=l.getD i R0::l.drop (i+1):=by
 rw[List.drop_eq_getElem_cons h,List.getD_eq_getElem?_getD,List.getElem?_eq_getElem h];rfl
theorem q3r(l:List Pr)(p:Pr):qck l++[encR p]=qck (l++[p]):=by simp[qck]
theorem q9h:qck []=[]:=rfl
theorem q37(n:Nat)(l:List Pr):(qck l).take n=qck (l.take n):=by simp[qck]
theorem q3q(n:Nat)(l:List Pr):(qck l).drop n=qck (l.drop n):=by simp[qck]
theorem qbd5(b:Bool)(n off:Nat)(p:Pr):fldv b n off (encR p)=ldc b n off (prc p):=rfl
attribute [go_sem] prc qbd5 q6l qlb qem qsa qm3 qb91 qbdp q34 q40 qur qf8 q37 q3q
end Go.V

/-
 Rows of pairs by rising variables; types put in the place of variables.
-/
namespace Go.V
open Go Go.RowKit

def risR:List Pr->Prop
 | []=>True
 | p::r=>(∀q∈r,p.v<q.v)∧risR r
def q6(v:Int):List Pr->Option Ty
 | []=>none
 | p::r=>if p.v=v then some p.ty else q6 v r
def ahdR(v:Int):List Pr->Nat
 | []=>0
 | p::r=>if p.v<v then ahdR v r+1 else 0
def insR(v:Int)(t:Ty)(l:List Pr):List Pr:=l.take (ahdR v l)++⟨v,t⟩::l.drop (ahdR v l)
theorem qst(v:Int):∀l,ahdR v l≤l.length
 | []=>Nat.le_refl _
 | p::r=>by rw[ahdR];have:=qst v r;split<;>simp<;>omega
theorem qba0(v:Int):∀(l:List Pr) (k:Nat),k<ahdR v l->(l.getD k R0).v<v
 | [],k,h=>by simp[ahdR] at h
 | p :: r, k, h => by
   rw[ahdR] at h
   split at h
   ·rename_i hp
    cases k with
    | zero=>exact hp
    | succ k=>exact qba0 v r k (by omega)
   ·omega
theorem q65{v:Int}:∀{l:List Pr},risR l->∀(k:Nat),ahdR v l≤k->k<l.length->v≤(l.getD k R0).v
 | [],_,k,_,h=>by simp at h
 | p :: r, hr, k, h, hk => by
   rw[ahdR] at h
   split at h
   ·cases k with
    | zero=>omega
    | succ k=>exact q65 hr.2 k (by omega) (by simpa using hk)
   ·rename_i hp
    cases k with
    | zero=>show v≤p.v;omega
    | succ k=>have:=hr.1 _ (qhz (l:=r) (i:=k) (by simpa using hk));show v≤(r.getD k R0).v;omega
theorem qsh{v:Int}:∀{l:List Pr},(∀p∈l,p.v≠v)->q6 v l=none
 | [],_=>rfl
 | p::r,h=>by rw[q6,if_neg (h p (by simp)),qsh fun q hq=>h q (by simp[hq])]
theorem qf0{v:Int}:∀{l:List Pr} {t:Ty},q6 v l=some t->∃p∈l,p.v=v∧p.ty=t
 | p :: r, t, h => by
   rw[q6] at h
   split at h
   ·rename_i hp;exact⟨p,by simp,hp,by simpa using h⟩
   ·obtain⟨q,h1,h2⟩:=qf0 h;exact⟨q,by simp[h1],h2⟩
theorem qkh{v:Int}:∀{l:List Pr},q6 v l=none->∀p∈l,p.v≠v
 | [],_,p,hp=>by simp at hp
 | q :: r, h, p, hp => by
   rw[q6] at h
   split at h
   ·cases h
   ·rename_i hq
    rcases List.mem_cons.1 hp with rfl | hp
    ·exact hq
    ·exact qkh h p hp
theorem ql3{v:Int}:∀{l:List Pr},risR l->q6 v l=if ahdR v l<l.length∧(l.getD (ahdR v l) R0).v=v then some (l.getD (ahdR v l) R0).ty else none
 | [],_=>by simp[q6,ahdR]
 | p :: r, hr => by
   rw[q6,ahdR]
   by_cases h1:p.v<v
   ·rw[if_pos h1,if_neg (by omega),ql3 hr.2]
    simp only[List.length_cons,List.getD_cons_succ,Nat.add_lt_add_iff_right]
   ·rw[if_neg h1]
    by_cases h2:p.v=v
    ·rw[if_pos h2,if_pos ⟨by simp,h2⟩];rfl
    ·rw[if_neg h2,if_neg (fun h=>h2 h.2)]
     exact qsh fun q hq=>by have:=hr.1 q hq;omega
theorem qjx(v:Int)(t:Ty)(p:Pr)(r:List Pr):insR v t (p::r)=if p.v<v then p::insR v t r else ⟨v,t⟩::p::r:=by
 rw[insR,ahdR];split<;>rfl
theorem qrj(v:Int)(t:Ty):insR v t []=[⟨v,t⟩]:=rfl
theorem insR_mem{v:Int}{t:Ty}{q:Pr}:∀{l:List Pr},q∈insR v t l↔q=⟨v,t⟩∨q∈l
 | []=>by simp[qrj]
 | p :: r => by
   rw[qjx]
   split
   ·simp only[List.mem_cons,insR_mem (l:=r)]
    constructor
    ·rintro (h | h | h)<;>simp[h]
    ·rintro (h | h | h)<;>simp[h]
   ·simp
theorem qyy{v:Int}{t:Ty}:∀{l:List Pr},risR l->q6 v l=none->risR (insR v t l)
 | [],_,_=>⟨fun q hq=>by simp at hq,trivial⟩
 | p :: r, hr, hn => by
   have h1:=qkh hn p (by simp)
   rw[q6,if_neg h1] at hn
   rw[qjx]
   split
   ·rename_i h
    refine⟨fun q hq=>?_,qyy hr.2 hn⟩
    rcases insR_mem.1 hq with rfl | hq
    ·exact h
    ·exact hr.1 q hq
   ·rename_i h
    refine⟨fun q hq=>?_,hr⟩
    rcases List.mem_cons.1 hq with rfl | hq
    ·show v<q.v;omega
    ·have:=hr.1 q hq;show v<q.v;omega
theorem qua{v x:Int}{t:Ty}:∀{l:List Pr},q6 v l=none->q6 x (insR v t l)=if x=v then some t else q6 x l
 | [], _ => by
   rw[qrj,q6,q6]
   by_cases h:x=v
   ·rw[if_pos h.symm,if_pos h]
   ·rw[if_neg (fun h'=>h h'.symm),if_neg h];rfl
 | p :: r, hn => by
   have h1:=qkh hn p (by simp)
   have hn':=hn
   rw[q6,if_neg h1] at hn'
   rw[qjx]
   split
   ·rw[q6,q6,qua hn']
    by_cases h:p.v=x
    ·rw[if_pos h,if_pos h,if_neg (fun h'=>h1 (h.trans h'))]
    ·rw[if_neg h,if_neg h]
   ·rw[q6]
    by_cases h:x=v
    ·rw[if_pos h.symm,if_pos h]
    ·rw[if_neg (fun h'=>h h'.symm),if_neg h]
theorem qsk(v:Int)(t:Ty)(l:List Pr):(insR v t l).length=l.length+1:=by
 have:=qst v l
 rw[insR,List.length_append,List.length_cons,List.length_take,List.length_drop];omega
theorem qyw{v:Int}{t:Ty}:∀{l:List Pr},(∀p∈l,p.v<v)->insR v t l=l++[⟨v,t⟩]
 | [],_=>rfl
 | p::r,h=>by rw[qjx,if_pos (h p (by simp)),qyw fun q hq=>h q (by simp[hq])];rfl

/-! types in the place of variables -/
mutual
def putY(s:List Pr):Ty->Ty
 | .mk c v l=>if c=[] then(match q6 v s with | some u=>u | none=>.mk c v l) else .mk c v (qfp s l)
def qfp(s:List Pr):List Ty->List Ty
 | []=>[]
 | x::r=>putY s x::qfp s r
end
mutual
def sizR(s:List Pr):Ty->Nat
 | .mk c v l=>if c=[] then(match q6 v s with | some u=>szY u | none=>1) else 1+qo6 s l
def qo6(s:List Pr):List Ty->Nat
 | []=>0
 | x::r=>sizR s x+qo6 s r
end
theorem qva(s:List Pr):∀l,qfp s l=l.map (putY s)
 | []=>by rw[qfp];rfl
 | x::r=>by rw[qfp,qva s r];rfl
theorem q9c(s:List Pr)(l:List Ty):(qfp s l).length=l.length:=by rw[qva];simp
mutual
def bare:Ty->Prop
 | .mk c v l=>(c=[]->l=[])∧qjj l
def qjj:List Ty->Prop
 | []=>True
 | x::r=>bare x∧qjj r
end
theorem qbwi(t:Ty):bare t↔(t.con=[]->t.args=[])∧qjj t.args:=by cases t;rw[bare];rfl
theorem qtv:∀{l:List Ty},qjj l->∀x∈l,bare x
 | [],_,x,h=>by simp at h
 | y :: r, hb, x, h => by
   rcases List.mem_cons.1 h with rfl | h
   ·exact hb.1
   ·exact qtv hb.2 x h
mutual
theorem qx4(s:List Pr):∀t,bare t->szY (putY s t)=sizR s t
 | .mk c v l, h => by
   rw[bare] at h
   rw[putY,sizR]
   split
   ·rename_i hc
    cases q6 v s with
    | some u=>rfl
    | none=>rw[h.1 hc,szY,szYs]
   ·rw[szY,qz2 s l h.2]
theorem qz2(s:List Pr):∀l,qjj l->szYs (qfp s l)=qo6 s l
 | [],_=>by rw[qfp,szYs,qo6]
 | x::r,h=>by rw[qfp,szYs,qo6,qx4 s x h.1,qz2 s r h.2]
end
mutual
def bput(s:List Pr):Ty->Int->Int->Int×Ty
 | .mk c v l, b, k => match (if c = [] then q6 v s else none) with
   | some u=>(if 101<k+dpY u then -1 else b-szY u,u)
   | none=>((qdr s l (b-1) (k+1)).1,match (qdr s l (b-1) (k+1)).2 with | some l'=>.mk c v l' | none=>.mk c v l)
def qdr(s:List Pr):List Ty->Int->Int->Int×Option (List Ty)
 | [],b,k=>(b,some [])
 | x::r,b,k=>if b<0 then(b,none) else((qdr s r (bput s x b k).1 k).1,(qdr s r (bput s x b k).1 k).2.map ((bput s x b k).2 :: ·))
end
theorem qb6h(s:List Pr)(t:Ty)(b k:Int):bput s t b k=match (if t.con=[] then q6 t.var s else none) with
 | some u=>(if 101<k+dpY u then -1 else b-szY u,u)
 | none=>((qdr s t.args (b-1) (k+1)).1,match (qdr s t.args (b-1) (k+1)).2 with | some l'=>.mk t.con t.var l' | none=>t):=by cases t;rw[bput];rfl
theorem q5n(s:List Pr){b:Int}(h:b<0):∀(l:List Ty) (k:Int),(qdr s l b k).1=b
 | [],k=>by rw[qdr]
 | x::r,k=>by rw[qdr,if_pos h]
def okR(s:List Pr):Prop:=∀p∈s,szY p.ty≤4096∧dpY p.ty≤100
theorem qzm{s:List Pr}(h:okR s){v:Int}{u:Ty}(hu:q6 v s=some u):szY u≤4096∧dpY u≤100:=by
 obtain⟨p,h1,_,rfl⟩:=qf0 hu
 exact h p h1
mutual
theorem qy8(s:List Pr):∀(t:Ty) (b k:Int),bare t->0≤b->k+dpY t≤101 →
 (((sizR s t:Int)≤b∧k+dpY (putY s t)≤101)->bput s t b k=(b-sizR s t,putY s t))∧(¬((sizR s t:Int)≤b∧k+dpY (putY s t)≤101)->(bput s t b k).1<0)
 | .mk c v l, b, k, hb, h0, hk => by
   rw[bare] at hb
   rw[dpY] at hk
   rw[bput,sizR,putY]
   by_cases hc:c=[]
   ·simp only[if_pos hc]
    cases hl:q6 v s with
    | some u =>
      simp only
      refine⟨fun h=>by rw[if_neg (by omega)],fun h=>?_⟩
      split<;>omega
    | none =>
      have h1:=hb.1 hc
      subst h1
      simp only[qdr,dpY,dpYs]
      refine⟨fun h=>by simp,fun h=>?_⟩
      omega
   ·simp only[if_neg hc]
    rw[dpY]
    have ih:=que s l (b-1) (k+1) hb.2 (by omega)
    refine⟨fun h=>?_,fun h=>?_⟩
    ·rw[ih.1 ⟨by omega,by omega,by omega⟩]
     simp only
     congr 1
     omega
    ·exact ih.2 (by omega)
theorem que(s:List Pr):∀(l:List Ty) (b k:Int),qjj l->k+dpYs l≤101 →
 ((0≤b∧(qo6 s l:Int)≤b∧k+dpYs (qfp s l)≤101)->qdr s l b k=(b-qo6 s l,some (qfp s l)))∧(¬(0≤b∧(qo6 s l:Int)≤b∧k+dpYs (qfp s l)≤101)->(qdr s l b k).1<0)
 | [], b, k, hb, hk => by
   rw[qdr,qo6,qfp,dpYs] at *
   refine⟨fun h=>by simp,fun h=>?_⟩
   simp only
   omega
 | x :: r, b, k, hb, hk => by
   rw[qjj] at hb
   rw[dpYs] at hk
   rw[qdr,qo6,qfp,dpYs]
   by_cases h0:b<0
   ·rw[if_pos h0]
    exact⟨fun h=>by omega,fun _=>h0⟩
   ·rw[if_neg h0]
    have ih1:=qy8 s x b k hb.1 (by omega) (by omega)
    by_cases h1:(sizR s x:Int)≤b∧k+dpY (putY s x)≤101
    ·rw[ih1.1 h1]
     have ih2:=que s r (b-sizR s x) k hb.2 (by omega)
     refine⟨fun h=>?_,fun h=>?_⟩
     ·rw[ih2.1 ⟨by omega,by omega,by omega⟩]
      simp only[Option.map_some]
      congr 1
      omega
     ·exact ih2.2 (by omega)
    ·have h2:=ih1.2 h1
     rw[q5n s h2]
     refine⟨fun h=>?_,fun h=>h2⟩
     exfalso;omega
end
mutual
theorem qyv{s:List Pr}(hs:okR s):∀(t:Ty) (b k:Int),0≤b->b≤4096->-4096≤(bput s t b k).1∧(bput s t b k).1≤4096
 | .mk c v l, b, k, h0, h1 => by
   rw[bput]
   split
   ·rename_i u hu
    have hl:q6 v s=some u:=by
     by_cases hc:c=[]
     ·rwa [if_pos hc] at hu
     ·rw[if_neg hc] at hu;cases hu
    have:=qzm hs hl
    simp only
    split<;>omega
   ·simp only
    exact qth hs l (b-1) (k+1) (by omega) (by omega)
theorem qth{s:List Pr}(hs:okR s):∀(l:List Ty) (b k:Int),-4096≤b->b≤4096->-4096≤(qdr s l b k).1∧(qdr s l b k).1≤4096
 | [],b,k,h0,h1=>by rw[qdr];exact⟨h0,h1⟩
 | x :: r, b, k, h0, h1 => by
   rw[qdr]
   split
   ·exact⟨h0,h1⟩
   ·rename_i h
    have:=qyv hs x b k (by omega) h1
    exact qth hs r _ k this.1 this.2
end

/-! one behind the other -/
end Go.V
