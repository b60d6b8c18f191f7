/- Texts of this proof, joined. -/
import Derived.Test.YtkenggenkmfopaaGreatIbd
set_option linter.unusedVariables false
set_option linter.unusedSimpArgs false

/- made one: what it does, and why it ends -/
namespace Go.Proofs.YtkenggenkmfopaaGreat
open Go Go.RowKit Go.V

def bndU(s:List Pr)(v:Int)(t:Ty):List Pr×Int:=if t.con=[]∧t.var=v then(s,0) else if v∈varY t then([],15) else behR s [⟨v,t⟩]
def hdU(s:List Pr)(A B:Ty):(List Pr×Int)×List (Ty×Ty) :=
 if A.con=[] then(bndU s A.var B,[]) else if B.con=[] then(bndU s B.var A,[]) else if A.con=B.con∧A.args.length=B.args.length then((s,0),A.args.zip B.args) else(([],14),[])
def stpU(s:List Pr)(a b:Ty):(List Pr×Int)×List (Ty×Ty) :=
 if(appR s a).2=0 then(if(appR s b).2=0 then hdU s (appR s a).1 (appR s b).1 else(([],(appR s b).2),[])) else(([],(appR s a).2),[])
def slvU:Nat->List Pr->List (Ty×Ty)->Option (List Pr×Int)
 | _,s,[]=>some (s,0)
 | 0,_,_::_=>none
 | n+1,s,x::r=>if(stpU s x.1 x.2).1.2=0 then slvU n (stpU s x.1 x.2).1.1 ((stpU s x.1 x.2).2++r) else some ([],(stpU s x.1 x.2).1.2)
theorem qmf(n:Nat)(s:List Pr):slvU n s []=some (s,0):=by cases n<;>rfl
theorem qps:∀(n:Nat) (s:List Pr) (xs ys:List (Ty×Ty)) (r:List Pr×Int),slvU n s (xs++ys)=some r →
 ∃m q,m≤n∧slvU m s xs=some q∧(q.2≠0->r=q∧q.1=[])∧(q.2=0->∃k,k≤n∧slvU k q.1 ys=some r)
 | n,s,[],ys,r,h=>⟨n,(s,0),Nat.le_refl _,qmf _ _,fun h=>absurd rfl h,fun _=>⟨n,Nat.le_refl _,h⟩⟩
 | 0,s,x::xs,ys,r,h=>by simp[slvU] at h
 | n + 1, s, x :: xs, ys, r, h => by
   rw[List.cons_append,slvU] at h
   by_cases he:(stpU s x.1 x.2).1.2=0
   ·rw[if_pos he,←List.append_assoc] at h
    obtain⟨m,q,h1,h2,h3,h4⟩:=qps n _ _ ys r h
    refine⟨m+1,q,by omega,by rw[slvU,if_pos he];exact h2,h3,fun hq=>?_⟩
    obtain⟨k,h5,h6⟩:=h4 hq
    exact⟨k,by omega,h6⟩
   ·rw[if_neg he] at h
    refine⟨1,([],(stpU s x.1 x.2).1.2),by omega,by rw[slvU,if_neg he],fun _=>⟨?_,rfl⟩,fun hq=>absurd hq he⟩
    simpa using h.symm
/-! types under functions -/
theorem var1(v:Int):varY (.mk [] v [])=[v]:=by rw[qhn,qdt,if_pos rfl];rfl
mutual
theorem qmg(f:Int->Ty):∀t,bare t->∀w,w∈varY (subF f t)->∃v,v∈varY t∧w∈varY (f v)
 | .mk c v l, hb, w, hw => by
   rw[bare] at hb
   rw[subF] at hw
   by_cases hc:c=[]
   ·rw[if_pos hc] at hw
    exact⟨v,by rw[qhn,if_pos hc];simp,hw⟩
   ·rw[if_neg hc,qhn,if_neg hc,List.nil_append] at hw
    obtain⟨x,h1,h2⟩:=qtf f l hb.2 w hw
    exact⟨x,by rw[qhn];simp[h1],h2⟩
theorem qtf(f:Int->Ty):∀l,qjj l->∀w,w∈qdt (qea f l)->∃v,v∈qdt l∧w∈varY (f v)
 | [],hb,w,hw=>by rw[qea,qdt] at hw;simp at hw
 | x :: r, hb, w, hw => by
   rw[qea,qdt] at hw
   rcases List.mem_append.1 hw with hw | hw
   ·obtain⟨v,h1,h2⟩:=qmg f x hb.1 w hw
    exact⟨v,by rw[qdt];simp[h1],h2⟩
   ·obtain⟨v,h1,h2⟩:=qtf f r hb.2 w hw
    exact⟨v,by rw[qdt];simp[h1],h2⟩
end
mutual
theorem qxk(f:Int->Ty):∀t,bare t->(∀w,w∈varY t->f w=.mk [] w [])->subF f t=t
 | .mk c v l, hb, h => by
   rw[bare] at hb
   rw[subF]
   by_cases hc:c=[]
   ·rw[if_pos hc,h v (by rw[qhn,if_pos hc];simp),hc,hb.1 hc]
   ·rw[if_neg hc,qz9 f l hb.2 fun w hw=>h w (by rw[qhn];simp[hw])]
theorem qz9(f:Int->Ty):∀l,qjj l->(∀w,w∈qdt l->f w=.mk [] w [])->qea f l=l
 | [],_,_=>by rw[qea]
 | x :: r, hb, h => by
   rw[qea,qxk f x hb.1 fun w hw=>h w (by rw[qdt];simp[hw]),qz9 f r hb.2 fun w hw=>h w (by rw[qdt];simp[hw])]
end
theorem qez{s:List Pr}{v:Int}(h:q6 v s=none):funR s v=.mk [] v []:=by rw[funR,h];rfl
def abs(f:Int->Ty)(s:List Pr):Prop:=∀v,subF f (funR s v)=f v
theorem qxj{f:Int->Ty}{s:List Pr}(h:abs f s){t:Ty}(hb:bare t):subF f (putY s t)=subF f t:=by
 rw[qh2 s t hb,quq]
 congr 1
 exact funext h
def sep(s:List Pr):Prop:=∀p∈s,∀w,w∈varY p.ty->q6 w s=none
theorem qyc{s:List Pr}(ho:okS s)(h:sep s){t:Ty}(hb:bare t){w:Int}(hw:w∈varY (putY s t)):q6 w s=none:=by
 rw[qh2 s t hb] at hw
 obtain⟨v,h1,h2⟩:=qmg _ t hb w hw
 cases hl:q6 v s with
 | none=>rw[qez hl,var1] at h2;simp at h2;subst h2;exact hl
 | some u =>
   rw[funR,hl] at h2
   obtain⟨p,hp,rfl,rfl⟩:=qf0 hl
   exact h p hp w h2
theorem qbk7{s:List Pr}{t:Ty}(hb:bare t)(h:∀w,w∈varY t->q6 w s=none):putY s t=t:=by
 rw[qh2 s t hb]
 exact qxk _ t hb fun w hw=>qez (h w hw)
/-! a variable more -/
theorem qbbx{s:List Pr}(hs:okS s){t:Ty}(ht:qq t=true):(appR s t).2=0∨(appR s t).2=2:=by
 rw[qwb hs,if_pos ht];split
 ·exact .inl rfl
 ·exact .inr rfl
theorem q9j{t:List Pr}(ht:okS t):∀(s acc:List Pr),(∀p∈s,qq p.ty=true)->(qk2 t acc s).2=0∨(qk2 t acc s).2=2
 | [],acc,_=>.inl rfl
 | p :: r, acc, h => by
   rw[qk2]
   split
   ·exact q9j ht r _ fun q hq=>h q (by simp[hq])
   ·rename_i hn
    exact .inr ((qbbx ht (h p (by simp))).resolve_left hn)
theorem qblr{s t:List Pr}(hs:okS s)(ht:okS t):(behR s t).2=0∨(behR s t).2=2∧(behR s t).1=[]:=by
 rw[behR]
 split
 ·exact .inl rfl
 ·rename_i h
  exact .inr ⟨(q9j ht s [] hs.2).resolve_left h,rfl⟩
theorem qfn{v:Int}{B:Ty}(h:qq B=true):okS [⟨v,B⟩]:=⟨⟨fun q hq=>by simp at hq,trivial⟩,fun p hp=>by simp at hp;subst hp;exact h⟩
theorem qb0u{s:List Pr}(hs:okS s){v:Int}{B:Ty}(hB:qq B=true)(hn:q6 v s=none)(he:(behR s [⟨v,B⟩]).2=0):(behR s [⟨v,B⟩]).1=insR v B (s.map fun p=>⟨p.v,putY [⟨v,B⟩] p.ty⟩):=by
 rw[behR] at he ⊢
 split at he
 ·rename_i h0
  rw[if_pos h0]
  obtain⟨q1,_⟩:=qj7 (qfn hB) s [] h0
  rw[List.nil_append] at q1
  show(setR _ v B).1=_
  rw[q1,setR,if_pos hB,qrn,hn];rfl
 ·rename_i h0;exact absurd he h0
theorem q4c(x v:Int)(B:Ty):q6 x [⟨v,B⟩]=if v=x then some B else none:=by rw[q6];rfl
theorem qbfu{s:List Pr}(hs:okS s){v:Int}{B:Ty}(hB:qq B=true)(hn:q6 v s=none)(he:(behR s [⟨v,B⟩]).2=0)(x:Int):funR (behR s [⟨v,B⟩]).1 x=match q6 x s with | some u=>putY [⟨v,B⟩] u | none=>if x=v then B else .mk [] x []:=by
 rw[funR,qvr hs (qfn hB) he,q4c]
 cases hl:q6 x s with
 | some u=>rfl
 | none =>
   by_cases hx:x=v
   ·rw[if_pos hx,if_pos hx.symm];rfl
   ·rw[if_neg hx,if_neg (fun h=>hx h.symm)];rfl
structure Inv(V:List Int)(s:List Pr)(st:List (Ty×Ty)):Prop where
 ok:okS s
 sep:sep s
 keys:∀p∈s,p.v∈V
 vars:∀p∈s,∀w,w∈varY p.ty->w∈V
 leg:∀x∈st,qq x.1=true∧qq x.2=true
 stk:∀x∈st,∀w,w∈varY x.1∨w∈varY x.2->w∈V
theorem Inv.tail{V:List Int}{s:List Pr}{x:Ty×Ty}{st:List (Ty×Ty)}(h:Inv V s (x::st)):Inv V s st :=
 ⟨h.ok,h.sep,h.keys,h.vars,fun y hy=>h.leg y (by simp[hy]),fun y hy=>h.stk y (by simp[hy])⟩
theorem q4t{t:Ty}(h:qq t=true)(hc:t.con=[]):t=.mk [] t.var []:=ty_eq.2 ⟨⟨hc,rfl⟩,qtt (qiy h) hc⟩
theorem qmh{V:List Int}{s:List Pr}{st:List (Ty×Ty)}(h:Inv V s st){t:Ty}(hb:bare t)(ht:∀w,w∈varY t->w∈V){w:Int}(hw:w∈varY (putY s t)):w∈V:=by
 rw[qh2 s t hb] at hw
 obtain⟨v,h1,h2⟩:=qmg _ t hb w hw
 cases hl:q6 v s with
 | none=>rw[qez hl,var1] at h2;simp at h2;subst h2;exact ht _ h1
 | some u =>
   rw[funR,hl] at h2
   obtain⟨p,hp,rfl,rfl⟩:=qf0 hl
   exact h.vars p hp w h2
theorem qbh2{V:List Int}{s:List Pr}{st:List (Ty×Ty)}(h:Inv V s st){v:Int}{B:Ty}(hB:qq B=true)(hv:v∈V)(hn:q6 v s=none)(hBV:∀w,w∈varY B->w∈V)(hBn:∀w,w∈varY B->q6 w s=none)(ho:v∉varY B)(he:(behR s [⟨v,B⟩]).2=0):
 Inv V (behR s [⟨v,B⟩]).1 st∧(behR s [⟨v,B⟩]).1.length=s.length+1:=by
 have heq:=qb0u h.ok hB hn he
 have hok:=q8w h.ok (qfn (v:=v) hB)
 have hlk:=qvr h.ok (qfn (v:=v) hB) he
 have hmem:∀p∈(behR s [⟨v,B⟩]).1,p=⟨v,B⟩∨∃q∈s,p=⟨q.v,putY [⟨v,B⟩] q.ty⟩:=fun p hp=>by
  rw[heq] at hp
  rcases insR_mem.1 hp with rfl | hp
  ·exact .inl rfl
  ·obtain⟨q,hq,rfl⟩:=List.mem_map.1 hp
   exact .inr ⟨q,hq,rfl⟩
 have hpv:∀q∈s,∀w,w∈varY (putY [⟨v,B⟩] q.ty)->(w∈varY q.ty∧w≠v)∨w∈varY B:=fun q hq w hw=>by
  have hb:=qcr (h.ok.2 q hq)
  rw[qh2 _ _ hb] at hw
  obtain⟨x,h1,h2⟩:=qmg _ _ hb w hw
  by_cases hx:v=x
  ·rw[funR,q4c,if_pos hx] at h2
   exact .inr h2
  ·rw[funR,q4c,if_neg hx,Option.getD_none,var1] at h2
   simp at h2
   subst h2
   exact .inl ⟨h1,fun h=>hx h.symm⟩
 have hfree:∀w,q6 w s=none->w≠v->q6 w (behR s [⟨v,B⟩]).1=none:=fun w h1 h2=>by
  rw[hlk,h1,q4c,if_neg (fun h=>h2 h.symm)]
 refine⟨⟨hok,fun p hp w hw=>?_,fun p hp=>?_,fun p hp w hw=>?_,h.leg,h.stk⟩,by rw[heq,qsk,List.length_map]⟩
 ·rcases hmem p hp with rfl | ⟨q,hq,rfl⟩
  ·exact hfree w (hBn w hw) fun h=>ho (h ▸ hw)
  ·rcases hpv q hq w hw with ⟨h1,h2⟩ | h1
   ·exact hfree w (h.sep q hq w h1) h2
   ·exact hfree w (hBn w h1) fun h=>ho (h ▸ h1)
 ·rcases hmem p hp with rfl | ⟨q,hq,rfl⟩
  ·exact hv
  ·exact h.keys q hq
 ·rcases hmem p hp with rfl | ⟨q,hq,rfl⟩
  ·exact hBV w hw
  ·rcases hpv q hq w hw with ⟨h1,h2⟩ | h1
   ·exact h.vars q hq w h1
   ·exact hBV w h1
def qb1s(A B:Ty)(v:Int)(t:Ty):Prop:=(A=.mk [] v []∧B=t)∨(B=.mk [] v []∧A=t)
inductive StepU(V:List Int)(s:List Pr)(a b:Ty):(List Pr×Int)×List (Ty×Ty)->Prop
 | same (h:putY s a=putY s b):StepU V s a b ((s,0),[])
 | bind (v:Int) (t:Ty) (hp:qb1s (putY s a) (putY s b) v t) (ht:qq t=true) (hv:v∈V) (hn:q6 v s=none) (hV:∀w,w∈varY t->w∈V) (hf:∀w,w∈varY t->q6 w s=none) (ho:v∉varY t) (he:(behR s [⟨v,t⟩]).2=0):StepU V s a b (behR s [⟨v,t⟩],[])
 | args (c:List UInt8) (x y:Int) (l m:List Ty) (hA:putY s a=.mk c x l) (hB:putY s b=.mk c y m) (hc:c≠[]) (hl:l.length=m.length) (h1:qq (.mk c x l)=true) (h2:qq (.mk c y m)=true):StepU V s a b ((s,0),l.zip m)
 | limit:StepU V s a b (([],2),[])
 | heads (h1:(putY s a).con≠[]) (h2:(putY s b).con≠[]) (h:¬((putY s a).con=(putY s b).con∧(putY s a).args.length=(putY s b).args.length)):StepU V s a b (([],14),[])
 | occurs (v:Int) (t:Ty) (hp:qb1s (putY s a) (putY s b) v t) (ht:qq t=true) (hv:v∈varY t) (hn:¬(t.con=[]∧t.var=v)):StepU V s a b (([],15),[])
theorem qyu{V:List Int}{s:List Pr}{a b:Ty}{st:List (Ty×Ty)}(h:Inv V s st){v:Int}{t:Ty}(hp:qb1s (putY s a) (putY s b) v t)(ht:qq t=true)(hv:v∈V)(hn:q6 v s=none)(hV:∀w,w∈varY t->w∈V)(hf:∀w,w∈varY t->q6 w s=none):StepU V s a b (bndU s v t,[]):=by
 rw[bndU]
 split
 ·rename_i h1
  refine .same ?_
  have:t=.mk [] v []:=by rw[q4t ht h1.1,h1.2]
  rcases hp with ⟨p1,p2⟩ | ⟨p1,p2⟩
  ·rw[p1,p2,this]
  ·rw[p1,p2,this]
 ·rename_i h1
  split
  ·rename_i h2
   exact .occurs v t hp ht h2 h1
  ·rename_i h2
   rcases qblr h.ok (qfn (v:=v) ht) with he | ⟨he,he'⟩
   ·exact .bind v t hp ht hv hn hV hf h2 he
   ·rw[show behR s [⟨v,t⟩]=([],2) from Prod.ext he' he]
    exact .limit
theorem qu4{V:List Int}{s:List Pr}{a b:Ty}{st:List (Ty×Ty)}(h:Inv V s ((a,b)::st)):StepU V s a b (stpU s a b):=by
 obtain⟨ha,hb⟩:=h.leg (a,b) (by simp)
 have hba:=qcr ha
 have hbb:=qcr hb
 rw[stpU]
 by_cases e1:(appR s a).2=0
 case neg =>
  rw[if_neg e1,(qbbx h.ok ha).resolve_left e1];exact .limit
 rw[if_pos e1]
 by_cases e2:(appR s b).2=0
 case neg =>
  rw[if_neg e2,(qbbx h.ok hb).resolve_left e2];exact .limit
 rw[if_pos e2]
 obtain⟨_,hA,eA⟩:=qdl h.ok e1
 obtain⟨_,hB,eB⟩:=qdl h.ok e2
 rw[eA,eB]
 have fA:∀w,w∈varY (putY s a)->q6 w s=none:=fun w hw=>qyc h.ok h.sep hba hw
 have fB:∀w,w∈varY (putY s b)->q6 w s=none:=fun w hw=>qyc h.ok h.sep hbb hw
 have vA:∀w,w∈varY (putY s a)->w∈V:=fun w hw=>qmh h hba (fun w hw=>h.stk (a,b) (by simp) w (.inl hw)) hw
 have vB:∀w,w∈varY (putY s b)->w∈V:=fun w hw=>qmh h hbb (fun w hw=>h.stk (a,b) (by simp) w (.inr hw)) hw
 rw[hdU]
 by_cases c1:(putY s a).con=[]
 ·rw[if_pos c1]
  have hvar:=q4t hA c1
  have hmem:(putY s a).var∈varY (putY s a):=by rw[hvar,var1];exact List.mem_singleton.2 rfl
  exact qyu h (.inl ⟨hvar,rfl⟩) hB (vA _ hmem) (fA _ hmem) vB fB
 rw[if_neg c1]
 by_cases c2:(putY s b).con=[]
 ·rw[if_pos c2]
  have hvar:=q4t hB c2
  have hmem:(putY s b).var∈varY (putY s b):=by rw[hvar,var1];exact List.mem_singleton.2 rfl
  exact qyu h (.inr ⟨hvar,rfl⟩) hA (vB _ hmem) (fB _ hmem) vA fA
 rw[if_neg c2]
 by_cases c3:(putY s a).con=(putY s b).con∧(putY s a).args.length=(putY s b).args.length
 ·rw[if_pos c3]
  have hA':putY s a=.mk (putY s a).con (putY s a).var (putY s a).args:=ty_eq.2 ⟨⟨rfl,rfl⟩,rfl⟩
  have hB':putY s b=.mk (putY s a).con (putY s b).var (putY s b).args:=ty_eq.2 ⟨⟨c3.1.symm,rfl⟩,rfl⟩
  refine .args _ _ _ _ _ hA' hB' c1 c3.2 (by rw[←hA'];exact hA) (by rw[←hB'];exact hB)
 ·rw[if_neg c3]
  exact .heads c1 c2 c3

def wtU(s:List Pr):List (Ty×Ty)->Nat
 | []=>0
 | x::r=>szY (putY s x.1)+wtU s r
theorem qbbv(s:List Pr):∀a b,wtU s (a++b)=wtU s a+wtU s b
 | [],b=>by simp[wtU]
 | x::a,b=>by rw[List.cons_append,wtU,wtU,qbbv s a b];omega
theorem qwu(s:List Pr):∀a,a.length≤wtU s a
 | []=>Nat.zero_le _
 | x::a=>by have:=qwc (putY s x.1);have:=qwu s a;rw[List.length_cons,wtU];omega
theorem q54{s:List Pr}:∀(l m:List Ty),(∀x∈l,putY s x=x)->wtU s (l.zip m)≤szYs l
 | [],m,_=>by simp[wtU]
 | x::l,[],_=>by simp[wtU]
 | x :: l, y :: m, h => by
   have:=q54 l m fun z hz=>h z (by simp[hz])
   rw[List.zip_cons_cons,wtU,szYs,h x (by simp)]
   omega
theorem q8d{l m:List Ty}{x:Ty×Ty}(h:x∈l.zip m):x.1∈l∧x.2∈m:=⟨(List.of_mem_zip h).1,(List.of_mem_zip h).2⟩
theorem qme:∀{l:List Ty} {t:Ty} {w:Int},t∈l->w∈varY t->w∈qdt l
 | [],t,w,h,_=>by simp at h
 | x :: r, t, w, h, hw => by
   rw[qdt]
   rcases List.mem_cons.1 h with rfl | h
   ·simp[hw]
   ·simp[qme h hw]
theorem qr8{c:List UInt8}{x:Int}{l:List Ty}{w:Int}(h:w∈qdt l):w∈varY (.mk c x l):=by rw[qhn];simp[h]
theorem qsq{V:List Int}{s:List Pr}{a b:Ty}{st:List (Ty×Ty)}(h:Inv V s ((a,b)::st)){q:(List Pr×Int)×List (Ty×Ty)}(hq:StepU V s a b q)(he:q.1.2=0):
 Inv V q.1.1 (q.2++st)∧((q.1.1=s∧wtU s q.2<szY (putY s a)∧wtU s q.2≤4096)∨(q.2=[]∧q.1.1.length=s.length+1)):=by
 cases hq with
 | same hh=>exact⟨h.tail,.inl ⟨rfl,qwc _,by simp[wtU]⟩⟩
 | bind v t hp ht hv hn hV hf ho he' =>
   obtain⟨h1,h2⟩:=qbh2 h.tail ht hv hn hV hf ho he'
   exact⟨h1,.inr ⟨rfl,h2⟩⟩
 | args c x y l m hA hB hc hl h1 h2 =>
   have ha:=qcr (h.leg (a,b) (by simp)).1
   have hb:=qcr (h.leg (a,b) (by simp)).2
   have hlf:∀z∈l,putY s z=z:=fun z hz=>qbk7 (qcr (qn6 (t:=.mk c x l) h1 hz)) fun w hw=>qyc h.ok h.sep ha (by rw[hA];exact qr8 (qme hz hw))
   have hw:=q54 l m hlf
   have hsz:szYs l<4096:=by
    have:=((qbc _).1 h1).1
    rw[q68] at this;omega
   refine⟨⟨h.ok,h.sep,h.keys,h.vars,fun z hz=>?_,fun z hz w hw=>?_⟩,.inl ⟨rfl,by rw[hA,q68];show wtU s (l.zip m)<_;omega,by show wtU s (l.zip m)≤_;omega⟩⟩
   ·rcases List.mem_append.1 hz with hz | hz
    ·obtain⟨q1,q2⟩:=q8d hz
     exact⟨qn6 (t:=.mk c x l) h1 q1,qn6 (t:=.mk c y m) h2 q2⟩
    ·exact h.leg z (by simp[hz])
   ·rcases List.mem_append.1 hz with hz | hz
    ·obtain⟨q1,q2⟩:=q8d hz
     rcases hw with hw | hw
     ·exact qmh h ha (fun w hw=>h.stk (a,b) (by simp) w (.inl hw)) (by rw[hA];exact qr8 (qme q1 hw))
     ·exact qmh h hb (fun w hw=>h.stk (a,b) (by simp) w (.inr hw)) (by rw[hB];exact qr8 (qme q2 hw))
    ·exact h.stk z (by simp[hz]) w hw
 | limit=>cases he
 | heads=>cases he
 | occurs=>cases he
theorem q00:∀(l m:List Int),l.Nodup->(∀x∈l,x∈m)->l.length≤m.length
 | [],m,_,_=>Nat.zero_le _
 | x :: l, m, hn, h => by
   rw[List.nodup_cons] at hn
   have hx:=h x (by simp)
   have:=q00 l (m.erase x) hn.2 fun y hy=>(List.mem_erase_of_ne (by intro e;subst e;exact hn.1 hy)).2 (h y (by simp[hy]))
   rw[List.length_erase_of_mem hx] at this
   have:=List.length_pos_of_mem hx
   rw[List.length_cons];omega
theorem Inv.len{V:List Int}{s:List Pr}{st:List (Ty×Ty)}(h:Inv V s st):s.length≤V.length:=by
 have:=q00 (s.map Pr.v) V (qtm h.ok.1) fun v hv=>by
  obtain⟨p,hp,rfl⟩:=List.mem_map.1 hv
  exact h.keys p hp
 rwa [List.length_map] at this
/-! what is told makes them one -/
theorem qbw2{f:Int->Ty}{v:Int}{t:Ty}(h:f v=subF f t):abs f [⟨v,t⟩]:=fun x=>by
 by_cases hx:v=x
 ·rw[funR,q4c,if_pos hx,←hx,h];rfl
 ·rw[funR,q4c,if_neg hx,Option.getD_none,subF,if_pos rfl]
theorem qbdh{V:List Int}{f:Int->Ty}{s:List Pr}(hs:okS s){v:Int}{t:Ty}(ht:qq t=true)(hn:q6 v s=none)(he:(behR s [⟨v,t⟩]).2=0)(h:abs f (behR s [⟨v,t⟩]).1):abs f s∧f v=subF f t:=by
 have hf:=qbfu hs ht hn he
 have hv:f v=subF f t:=by
  have:=h v
  rw[hf v,hn] at this
  simp only[if_true] at this
  exact this.symm
 refine⟨fun x=>?_,hv⟩
 cases hl:q6 x s with
 | none=>rw[qez hl,subF,if_pos rfl]
 | some u =>
   have:=h x
   rw[hf x,hl] at this
   simp only at this
   rw[funR,hl,Option.getD_some,←qxj (qbw2 hv) (qcr (qy4 hs hl))]
   exact this
theorem qbev{s:List Pr}(hs:okS s)(h:sep s):abs (funR s) s:=fun v=>by
 cases hl:q6 v s with
 | none=>rw[qez hl,subF,if_pos rfl,qez hl]
 | some u =>
   have hu:funR s v=u:=by rw[funR,hl];rfl
   rw[hu]
   obtain⟨p,hp,rfl,rfl⟩:=qf0 hl
   exact qxk _ _ (qcr (hs.2 p hp)) fun w hw=>qez (h p hp w hw)
theorem q9z(f:Int->Ty)(v:Int):subF f (.mk [] v [])=f v:=by rw[subF,if_pos rfl]
theorem qz7{f:Int->Ty}:∀(l m:List Ty),l.length=m.length->((∀x∈l.zip m,subF f x.1=subF f x.2)↔qea f l=qea f m)
 | [],[],_=>by simp[qea]
 | [],y::m,h=>by simp at h
 | x::l,[],h=>by simp at h
 | x :: l, y :: m, h => by
   rw[qea,qea,List.cons.injEq,←qz7 l m (by simpa using h),List.zip_cons_cons]
   simp only[List.mem_cons,forall_eq_or_imp]
theorem q9p(f:Int->Ty){t:Ty}(h:t.con≠[]):subF f t=.mk t.con t.var (qea f t.args):=by
 cases t with
 | mk c v l =>
   have h':c≠[]:=h
   rw[subF,if_neg h'];rfl
theorem qqh{V:List Int}:∀(n:Nat) (s:List Pr) (st:List (Ty×Ty)) (r:List Pr×Int),Inv V s st->slvU n s st=some r->r.2=0 →
 Inv V r.1 []∧abs (funR r.1) s∧∀x∈st,subF (funR r.1) x.1=subF (funR r.1) x.2
 | n, s, [], r, h, hr, he => by
   rw[qmf] at hr
   simp only[Option.some.injEq] at hr
   subst hr
   exact⟨h,qbev h.ok h.sep,fun x hx=>by simp at hx⟩
 | 0,s,x::st,r,h,hr,he=>by simp[slvU] at hr
 | n + 1, s, (a, b) :: st, r, h, hr, he => by
   rw[slvU] at hr
   dsimp only at hr
   by_cases e0:(stpU s a b).1.2=0
   case neg =>
    rw[if_neg e0] at hr
    simp only[Option.some.injEq] at hr
    subst hr
    exact absurd he e0
   rw[if_pos e0] at hr
   have hc:=qu4 h
   obtain⟨h1,_⟩:=qsq h hc e0
   obtain⟨q1,q2,q3⟩:=qqh n _ _ r h1 hr he
   have hba:=qcr (h.leg (a,b) (by simp)).1
   have hbb:=qcr (h.leg (a,b) (by simp)).2
   generalize stpU s a b=q at hc e0 h1 q2 q3 hr
   have fin:abs (funR r.1) s->subF (funR r.1) (putY s a)=subF (funR r.1) (putY s b)->(∀x∈st,subF (funR r.1) x.1=subF (funR r.1) x.2)->Inv V r.1 []∧abs (funR r.1) s∧∀x∈(a,b)::st,subF (funR r.1) x.1=subF (funR r.1) x.2:=fun k1 k2 k3=>by
    refine⟨q1,k1,fun x hx=>?_⟩
    rcases List.mem_cons.1 hx with rfl | hx
    ·rwa [qxj k1 hba,qxj k1 hbb] at k2
    ·exact k3 x hx
   cases hc with
   | same hh=>exact fin q2 (by rw[hh]) fun x hx=>q3 x (by simp[hx])
   | bind v t hp ht hv hn hV hf ho he' =>
     obtain⟨k1,k2⟩:=qbdh (V:=V) h.ok ht hn he' q2
     refine fin k1 ?_ fun x hx=>q3 x (by simpa using hx)
     rcases hp with ⟨p1,p2⟩ | ⟨p1,p2⟩
     ·rw[p1,p2,q9z,k2]
     ·rw[p1,p2,q9z,k2]
   | args c x y l m hA hB hc' hl g1 g2 =>
     refine fin q2 ?_ fun x hx=>q3 x (by simp[hx])
     have hx0:=qzp ((qbc _).1 g1).2.2 hc'
     have hy0:=qzp ((qbc _).1 g2).2.2 hc'
     rw[hA,hB,q9p _ (t:=.mk c x l) hc',q9p _ (t:=.mk c y m) hc']
     refine ty_eq.2 ⟨⟨rfl,hx0.trans hy0.symm⟩,?_⟩
     exact(qz7 l m hl).1 fun z hz=>q3 z (by simp[hz])
   | limit=>cases e0
   | heads=>cases e0
   | occurs=>cases e0
/-! how much may lie on the stack -/
def Bd(k:Nat)(s:List Pr)(st:List (Ty×Ty)):Prop:=∃P O,st=P++O∧wtU s P≤4096∧O.length≤k+4097*s.length
theorem qb95{V:List Int}{k:Nat}{s:List Pr}{a b:Ty}{st:List (Ty×Ty)}(h:Inv V s ((a,b)::st))(hb:Bd k s ((a,b)::st)){q:(List Pr×Int)×List (Ty×Ty)}(hq:StepU V s a b q)(he:q.1.2=0):Bd k q.1.1 (q.2++st):=by
 obtain⟨P,O,e,h1,h2⟩:=hb
 obtain⟨_,h3⟩:=qsq h hq he
 cases P with
 | nil =>
   rw[List.nil_append] at e
   subst e
   rw[List.length_cons] at h2
   rcases h3 with ⟨e1,_,h3⟩ | ⟨e1,h3⟩
   ·rw[e1];exact⟨q.2,st,rfl,h3,by omega⟩
   ·rw[e1];exact⟨[],st,rfl,by simp[wtU],by rw[h3];omega⟩
 | cons x P =>
   rw[List.cons_append,List.cons.injEq] at e
   obtain⟨rfl,rfl⟩:=e
   rw[wtU] at h1
   rcases h3 with ⟨e1,h4,h3⟩ | ⟨e1,h3⟩
   ·rw[e1];exact⟨q.2++P,O,by rw[List.append_assoc],by rw[qbbv];dsimp only at h1;omega,h2⟩
   ·have:=qwu s P
    rw[e1];exact⟨[],P++O,rfl,by simp[wtU],by rw[h3,List.length_append];omega⟩
theorem qcec{k:Nat}{s:List Pr}{st:List (Ty×Ty)}(h:Bd k s st):st.length≤4096+k+4097*s.length:=by
 obtain⟨P,O,rfl,h1,h2⟩:=h
 have:=qwu s P
 rw[List.length_append];omega
end Go.Proofs.YtkenggenkmfopaaGreat
