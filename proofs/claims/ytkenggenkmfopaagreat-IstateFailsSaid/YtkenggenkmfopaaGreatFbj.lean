/- Texts of this proof, joined. -/
import Derived.Test.YtkenggenkmfopaaGreatFbi
import Derived.Test.YtkenggenkmfopaaGreatFap
import Derived.Test.YtkenggenkmfopaaGreatFag
import Derived.Test.YtkenggenkmfopaaGreatFbc
set_option linter.unusedVariables false
set_option linter.unusedSimpArgs false

/- matching: what it finds -/
namespace Go.Proofs.YtkenggenkmfopaaGreat
open Go Go.RowKit Go.V

mutual
def subF(f:Int->Ty):Ty->Ty
 | .mk c v l=>if c=[] then f v else .mk c v (qd5 f l)
def qd5(f:Int->Ty):List Ty->List Ty
 | []=>[]
 | x::r=>subF f x::qd5 f r
end
theorem q7u(f:Int->Ty):∀l,(qd5 f l).length=l.length
 | []=>rfl
 | x::r=>by rw[qd5,List.length_cons,List.length_cons,q7u f r]
def funR(s:List Pr)(v:Int):Ty:=(qm v s).getD (.mk [] v [])
mutual
theorem qep(s:List Pr):∀t,bare t->putY s t=subF (funR s) t
 | .mk c v l, h => by
   rw[bare] at h
   rw[putY,subF]
   split
   ·rename_i hc
    have hl:l=[]:=h.1 hc
    subst hl
    rw[funR]
    subst hc
    cases qm v s<;>rfl
   ·rw[qud s l h.2]
theorem qud(s:List Pr):∀l,qif l->qbz s l=qd5 (funR s) l
 | [],_=>by rw[qbz,qd5]
 | x :: r, h => by
   rw[qif] at h
   rw[qbz,qd5,qep s x h.1,qud s r h.2]
end
mutual
theorem qsy(f g:Int->Ty):∀t,subF g (subF f t)=subF (fun v=>subF g (f v)) t
 | .mk c v l => by
   rw[subF,subF]
   split
   ·rfl
   ·rename_i hc
    rw[subF,if_neg hc,qpo f g l]
theorem qpo(f g:Int->Ty):∀l,qd5 g (qd5 f l)=qd5 (fun v=>subF g (f v)) l
 | []=>by simp only[qd5]
 | x::r=>by rw[qd5,qd5,qd5,qsy f g x,qpo f g r]
end
theorem q7j(c:List UInt8)(v:Int)(l:List Ty):szY (.mk c v l)=1+szYs l:=by rw[szY]
theorem qgq(c:List UInt8)(v:Int)(l:List Ty):varY (.mk c v l)=(if c=[] then [v] else [])++qc5 l:=by rw[varY]
theorem qxg{t:Ty}(h:qcs t=true)(hc:t.con≠[]):t.var=0:=by
 rw[qft,Bool.and_eq_true] at h
 have h2:=h.2
 rw[mayY,mayW,if_neg hc] at h2
 split at h2
 ·simp at h2;exact h2.1
 split at h2
 ·simp at h2;exact h2.1
 ·simp at h2;exact h2.1

theorem qbp{t:Ty}(h:qi t=true):bare t:=qdt t ((qu t).1 h).2.2
theorem qsn:∀{s:List Pr},risR s->(s.map Pr.v).Nodup
 | [],_=>List.Pairwise.nil
 | p :: r, h => by
   rw[List.map_cons,List.nodup_cons]
   refine⟨fun hm=>?_,qsn h.2⟩
   obtain⟨q,h1,h2⟩:=List.mem_map.1 hm
   have:=h.1 q h1
   omega
/-! the reference's -/
theorem qne{t a:Ty}(h:qi t=true)(ha:a∈t.args):qi a=true:=by
 obtain⟨h1,h2,h3⟩:=(qu t).1 h
 have q1:=qdp ha
 have q2:=qnu ha
 rw[qdr] at h1
 rw[qrv] at h2
 rw[qft,Bool.and_eq_true] at h3
 refine(qu a).2 ⟨by omega,by omega,?_⟩
 have:∀l:List Ty,qby l=true->∀a∈l,qcs a=true:=fun l=>by
  induction l with
  | nil=>intro _ a ha;cases ha
  | cons x r ih =>
    intro hl a ha
    rw[qby,Bool.and_eq_true] at hl
    rcases List.mem_cons.1 ha with rfl | ha
    ·exact hl.1
    ·exact ih hl.2 a ha
 exact this _ h3.1 a ha

def bndU(s:List Pr)(v:Int)(t:Ty):List Pr×Int:=if t.con=[]∧t.var=v then(s,0) else if v∈varY t then([],15) else behR s [⟨v,t⟩]
def hdU(s:List Pr)(A B:Ty):(List Pr×Int)×List (Ty×Ty) :=
 if A.con=[] then(bndU s A.var B,[]) else if B.con=[] then(bndU s B.var A,[]) else if A.con=B.con∧A.args.length=B.args.length then((s,0),A.args.zip B.args) else(([],14),[])
def stpU(s:List Pr)(a b:Ty):(List Pr×Int)×List (Ty×Ty) :=
 if(appR s a).2=0 then(if(appR s b).2=0 then hdU s (appR s a).1 (appR s b).1 else(([],(appR s b).2),[])) else(([],(appR s a).2),[])
def slvU:Nat->List Pr->List (Ty×Ty)->Option (List Pr×Int)
 | _,s,[]=>some (s,0)
 | 0,_,_::_=>none
 | n+1,s,x::r=>if(stpU s x.1 x.2).1.2=0 then slvU n (stpU s x.1 x.2).1.1 ((stpU s x.1 x.2).2++r) else some ([],(stpU s x.1 x.2).1.2)
theorem qgh(n:Nat)(s:List Pr):slvU n s []=some (s,0):=by cases n<;>rfl
theorem qkm:∀(n:Nat) (s:List Pr) (xs ys:List (Ty×Ty)) (r:List Pr×Int),slvU n s (xs++ys)=some r →
 ∃m q,m≤n∧slvU m s xs=some q∧(q.2≠0->r=q∧q.1=[])∧(q.2=0->∃k,k≤n∧slvU k q.1 ys=some r)
 | n,s,[],ys,r,h=>⟨n,(s,0),Nat.le_refl _,qgh _ _,fun h=>absurd rfl h,fun _=>⟨n,Nat.le_refl _,h⟩⟩
 | 0,s,x::xs,ys,r,h=>by simp[slvU] at h
 | n + 1, s, x :: xs, ys, r, h => by
   rw[List.cons_append,slvU] at h
   by_cases he:(stpU s x.1 x.2).1.2=0
   ·rw[if_pos he,←List.append_assoc] at h
    obtain⟨m,q,h1,h2,h3,h4⟩:=qkm n _ _ ys r h
    refine⟨m+1,q,by omega,by rw[slvU,if_pos he];exact h2,h3,fun hq=>?_⟩
    obtain⟨k,h5,h6⟩:=h4 hq
    exact⟨k,by omega,h6⟩
   ·rw[if_neg he] at h
    refine⟨1,([],(stpU s x.1 x.2).1.2),by omega,by rw[slvU,if_neg he],fun _=>⟨?_,rfl⟩,fun hq=>absurd hq he⟩
    simpa using h.symm
/-! types under functions -/
theorem var1(v:Int):varY (.mk [] v [])=[v]:=by rw[qgq,qc5,if_pos rfl];rfl
mutual
theorem qjq(f:Int->Ty):∀t,bare t->∀w,w∈varY (subF f t)->∃v,v∈varY t∧w∈varY (f v)
 | .mk c v l, hb, w, hw => by
   rw[bare] at hb
   rw[subF] at hw
   by_cases hc:c=[]
   ·rw[if_pos hc] at hw
    exact⟨v,by rw[qgq,if_pos hc];simp,hw⟩
   ·rw[if_neg hc,qgq,if_neg hc,List.nil_append] at hw
    obtain⟨x,h1,h2⟩:=qr5 f l hb.2 w hw
    exact⟨x,by rw[qgq];simp[h1],h2⟩
theorem qr5(f:Int->Ty):∀l,qif l->∀w,w∈qc5 (qd5 f l)->∃v,v∈qc5 l∧w∈varY (f v)
 | [],hb,w,hw=>by rw[qd5,qc5] at hw;simp at hw
 | x :: r, hb, w, hw => by
   rw[qd5,qc5] at hw
   rcases List.mem_append.1 hw with hw | hw
   ·obtain⟨v,h1,h2⟩:=qjq f x hb.1 w hw
    exact⟨v,by rw[qc5];simp[h1],h2⟩
   ·obtain⟨v,h1,h2⟩:=qr5 f r hb.2 w hw
    exact⟨v,by rw[qc5];simp[h1],h2⟩
end
mutual
theorem qvj(f:Int->Ty):∀t,bare t->(∀w,w∈varY t->f w=.mk [] w [])->subF f t=t
 | .mk c v l, hb, h => by
   rw[bare] at hb
   rw[subF]
   by_cases hc:c=[]
   ·rw[if_pos hc,h v (by rw[qgq,if_pos hc];simp),hc,hb.1 hc]
   ·rw[if_neg hc,qxs f l hb.2 fun w hw=>h w (by rw[qgq];simp[hw])]
theorem qxs(f:Int->Ty):∀l,qif l->(∀w,w∈qc5 l->f w=.mk [] w [])->qd5 f l=l
 | [],_,_=>by rw[qd5]
 | x :: r, hb, h => by
   rw[qd5,qvj f x hb.1 fun w hw=>h w (by rw[qc5];simp[hw]),qxs f r hb.2 fun w hw=>h w (by rw[qc5];simp[hw])]
end
theorem qd9{s:List Pr}{v:Int}(h:qm v s=none):funR s v=.mk [] v []:=by rw[funR,h];rfl
def abs(f:Int->Ty)(s:List Pr):Prop:=∀v,subF f (funR s v)=f v
theorem qw4{f:Int->Ty}{s:List Pr}(h:abs f s){t:Ty}(hb:bare t):subF f (putY s t)=subF f t:=by
 rw[qep s t hb,qsy]
 congr 1
 exact funext h
def sep(s:List Pr):Prop:=∀p∈s,∀w,w∈varY p.ty->qm w s=none
theorem qkh{s:List Pr}(ho:okS s)(h:sep s){t:Ty}(hb:bare t){w:Int}(hw:w∈varY (putY s t)):qm w s=none:=by
 rw[qep s t hb] at hw
 obtain⟨v,h1,h2⟩:=qjq _ t hb w hw
 cases hl:qm v s with
 | none=>rw[qd9 hl,var1] at h2;simp at h2;subst h2;exact hl
 | some u =>
   rw[funR,hl] at h2
   obtain⟨p,hp,rfl,rfl⟩:=qcq hl
   exact h p hp w h2
theorem qbik{s:List Pr}{t:Ty}(hb:bare t)(h:∀w,w∈varY t->qm w s=none):putY s t=t:=by
 rw[qep s t hb]
 exact qvj _ t hb fun w hw=>qd9 (h w hw)
/-! a variable more -/
theorem q3n{s:List Pr}(hs:okS s){t:Ty}(ht:qi t=true):(appR s t).2=0∨(appR s t).2=2:=by
 rw[qvr hs,if_pos ht];split
 ·exact .inl rfl
 ·exact .inr rfl
theorem q6p{t:List Pr}(ht:okS t):∀(s acc:List Pr),(∀p∈s,qi p.ty=true)->(qfl t acc s).2=0∨(qfl t acc s).2=2
 | [],acc,_=>.inl rfl
 | p :: r, acc, h => by
   rw[qfl]
   split
   ·exact q6p ht r _ fun q hq=>h q (by simp[hq])
   ·rename_i hn
    exact .inr ((q3n ht (h p (by simp))).resolve_left hn)
theorem qbks{s t:List Pr}(hs:okS s)(ht:okS t):(behR s t).2=0∨(behR s t).2=2∧(behR s t).1=[]:=by
 rw[behR]
 split
 ·exact .inl rfl
 ·rename_i h
  exact .inr ⟨(q6p ht s [] hs.2).resolve_left h,rfl⟩
theorem qey{v:Int}{B:Ty}(h:qi B=true):okS [⟨v,B⟩]:=⟨⟨fun q hq=>by simp at hq,trivial⟩,fun p hp=>by simp at hp;subst hp;exact h⟩
theorem qcda{s:List Pr}(hs:okS s){v:Int}{B:Ty}(hB:qi B=true)(hn:qm v s=none)(he:(behR s [⟨v,B⟩]).2=0):(behR s [⟨v,B⟩]).1=insR v B (s.map fun p=>⟨p.v,putY [⟨v,B⟩] p.ty⟩):=by
 rw[behR] at he ⊢
 split at he
 ·rename_i h0
  rw[if_pos h0]
  obtain⟨q1,_⟩:=qit (qey hB) s [] h0
  rw[List.nil_append] at q1
  show(setR _ v B).1=_
  rw[q1,setR,if_pos hB,qqo,hn];rfl
 ·rename_i h0;exact absurd he h0
theorem q0l(x v:Int)(B:Ty):qm x [⟨v,B⟩]=if v=x then some B else none:=by rw[qm];rfl
theorem qba3{s:List Pr}(hs:okS s){v:Int}{B:Ty}(hB:qi B=true)(hn:qm v s=none)(he:(behR s [⟨v,B⟩]).2=0)(x:Int):funR (behR s [⟨v,B⟩]).1 x=match qm x s with | some u=>putY [⟨v,B⟩] u | none=>if x=v then B else .mk [] x []:=by
 rw[funR,qix hs (qey hB) he,q0l]
 cases hl:qm x s with
 | some u=>rfl
 | none =>
   by_cases hx:x=v
   ·rw[if_pos hx,if_pos hx.symm];rfl
   ·rw[if_neg hx,if_neg (fun h=>hx h.symm)];rfl
structure Inv(V:List Int)(s:List Pr)(st:List (Ty×Ty)):Prop where
 ok:okS s
 sep:sep s
 keys:∀p∈s,p.v∈V
 vars:∀p∈s,∀w,w∈varY p.ty->w∈V
 leg:∀x∈st,qi x.1=true∧qi x.2=true
 stk:∀x∈st,∀w,w∈varY x.1∨w∈varY x.2->w∈V
theorem Inv.tail{V:List Int}{s:List Pr}{x:Ty×Ty}{st:List (Ty×Ty)}(h:Inv V s (x::st)):Inv V s st :=
 ⟨h.ok,h.sep,h.keys,h.vars,fun y hy=>h.leg y (by simp[hy]),fun y hy=>h.stk y (by simp[hy])⟩
theorem q5b{t:Ty}(h:qi t=true)(hc:t.con=[]):t=.mk [] t.var []:=ty_eq.2 ⟨⟨hc,rfl⟩,qu4 (qf8 h) hc⟩
theorem qht{V:List Int}{s:List Pr}{st:List (Ty×Ty)}(h:Inv V s st){t:Ty}(hb:bare t)(ht:∀w,w∈varY t->w∈V){w:Int}(hw:w∈varY (putY s t)):w∈V:=by
 rw[qep s t hb] at hw
 obtain⟨v,h1,h2⟩:=qjq _ t hb w hw
 cases hl:qm v s with
 | none=>rw[qd9 hl,var1] at h2;simp at h2;subst h2;exact ht _ h1
 | some u =>
   rw[funR,hl] at h2
   obtain⟨p,hp,rfl,rfl⟩:=qcq hl
   exact h.vars p hp w h2
theorem qbhr{V:List Int}{s:List Pr}{st:List (Ty×Ty)}(h:Inv V s st){v:Int}{B:Ty}(hB:qi B=true)(hv:v∈V)(hn:qm v s=none)(hBV:∀w,w∈varY B->w∈V)(hBn:∀w,w∈varY B->qm w s=none)(ho:v∉varY B)(he:(behR s [⟨v,B⟩]).2=0):
 Inv V (behR s [⟨v,B⟩]).1 st∧(behR s [⟨v,B⟩]).1.length=s.length+1:=by
 have heq:=qcda h.ok hB hn he
 have hok:=qu8 h.ok (qey (v:=v) hB)
 have hlk:=qix h.ok (qey (v:=v) hB) he
 have hmem:∀p∈(behR s [⟨v,B⟩]).1,p=⟨v,B⟩∨∃q∈s,p=⟨q.v,putY [⟨v,B⟩] q.ty⟩:=fun p hp=>by
  rw[heq] at hp
  rcases insR_mem.1 hp with rfl | hp
  ·exact .inl rfl
  ·obtain⟨q,hq,rfl⟩:=List.mem_map.1 hp
   exact .inr ⟨q,hq,rfl⟩
 have hpv:∀q∈s,∀w,w∈varY (putY [⟨v,B⟩] q.ty)->(w∈varY q.ty∧w≠v)∨w∈varY B:=fun q hq w hw=>by
  have hb:=qbp (h.ok.2 q hq)
  rw[qep _ _ hb] at hw
  obtain⟨x,h1,h2⟩:=qjq _ _ hb w hw
  by_cases hx:v=x
  ·rw[funR,q0l,if_pos hx] at h2
   exact .inr h2
  ·rw[funR,q0l,if_neg hx,Option.getD_none,var1] at h2
   simp at h2
   subst h2
   exact .inl ⟨h1,fun h=>hx h.symm⟩
 have hfree:∀w,qm w s=none->w≠v->qm w (behR s [⟨v,B⟩]).1=none:=fun w h1 h2=>by
  rw[hlk,h1,q0l,if_neg (fun h=>h2 h.symm)]
 refine⟨⟨hok,fun p hp w hw=>?_,fun p hp=>?_,fun p hp w hw=>?_,h.leg,h.stk⟩,by rw[heq,qq2,List.length_map]⟩
 ·rcases hmem p hp with rfl | ⟨q,hq,rfl⟩
  ·exact hfree w (hBn w hw) fun h=>ho (h ▸ hw)
  ·rcases hpv q hq w hw with ⟨h1,h2⟩ | h1
   ·exact hfree w (h.sep q hq w h1) h2
   ·exact hfree w (hBn w h1) fun h=>ho (h ▸ h1)
 ·rcases hmem p hp with rfl | ⟨q,hq,rfl⟩
  ·exact hv
  ·exact h.keys q hq
 ·rcases hmem p hp with rfl | ⟨q,hq,rfl⟩
  ·exact hBV w hw
  ·rcases hpv q hq w hw with ⟨h1,h2⟩ | h1
   ·exact h.vars q hq w h1
   ·exact hBV w h1
def qb3o(A B:Ty)(v:Int)(t:Ty):Prop:=(A=.mk [] v []∧B=t)∨(B=.mk [] v []∧A=t)
inductive StepU(V:List Int)(s:List Pr)(a b:Ty):(List Pr×Int)×List (Ty×Ty)->Prop
 | same (h:putY s a=putY s b):StepU V s a b ((s,0),[])
 | bind (v:Int) (t:Ty) (hp:qb3o (putY s a) (putY s b) v t) (ht:qi t=true) (hv:v∈V) (hn:qm v s=none) (hV:∀w,w∈varY t->w∈V) (hf:∀w,w∈varY t->qm w s=none) (ho:v∉varY t) (he:(behR s [⟨v,t⟩]).2=0):StepU V s a b (behR s [⟨v,t⟩],[])
 | args (c:List UInt8) (x y:Int) (l m:List Ty) (hA:putY s a=.mk c x l) (hB:putY s b=.mk c y m) (hc:c≠[]) (hl:l.length=m.length) (h1:qi (.mk c x l)=true) (h2:qi (.mk c y m)=true):StepU V s a b ((s,0),l.zip m)
 | limit:StepU V s a b (([],2),[])
 | heads (h1:(putY s a).con≠[]) (h2:(putY s b).con≠[]) (h:¬((putY s a).con=(putY s b).con∧(putY s a).args.length=(putY s b).args.length)):StepU V s a b (([],14),[])
 | occurs (v:Int) (t:Ty) (hp:qb3o (putY s a) (putY s b) v t) (ht:qi t=true) (hv:v∈varY t) (hn:¬(t.con=[]∧t.var=v)):StepU V s a b (([],15),[])
theorem qyn{V:List Int}{s:List Pr}{a b:Ty}{st:List (Ty×Ty)}(h:Inv V s st){v:Int}{t:Ty}(hp:qb3o (putY s a) (putY s b) v t)(ht:qi t=true)(hv:v∈V)(hn:qm v s=none)(hV:∀w,w∈varY t->w∈V)(hf:∀w,w∈varY t->qm w s=none):StepU V s a b (bndU s v t,[]):=by
 rw[bndU]
 split
 ·rename_i h1
  refine .same ?_
  have:t=.mk [] v []:=by rw[q5b ht h1.1,h1.2]
  rcases hp with ⟨p1,p2⟩ | ⟨p1,p2⟩
  ·rw[p1,p2,this]
  ·rw[p1,p2,this]
 ·rename_i h1
  split
  ·rename_i h2
   exact .occurs v t hp ht h2 h1
  ·rename_i h2
   rcases qbks h.ok (qey (v:=v) ht) with he | ⟨he,he'⟩
   ·exact .bind v t hp ht hv hn hV hf h2 he
   ·rw[show behR s [⟨v,t⟩]=([],2) from Prod.ext he' he]
    exact .limit
theorem qg9{V:List Int}{s:List Pr}{a b:Ty}{st:List (Ty×Ty)}(h:Inv V s ((a,b)::st)):StepU V s a b (stpU s a b):=by
 obtain⟨ha,hb⟩:=h.leg (a,b) (by simp)
 have hba:=qbp ha
 have hbb:=qbp hb
 rw[stpU]
 by_cases e1:(appR s a).2=0
 case neg =>
  rw[if_neg e1,(q3n h.ok ha).resolve_left e1];exact .limit
 rw[if_pos e1]
 by_cases e2:(appR s b).2=0
 case neg =>
  rw[if_neg e2,(q3n h.ok hb).resolve_left e2];exact .limit
 rw[if_pos e2]
 obtain⟨_,hA,eA⟩:=qb0 h.ok e1
 obtain⟨_,hB,eB⟩:=qb0 h.ok e2
 rw[eA,eB]
 have fA:∀w,w∈varY (putY s a)->qm w s=none:=fun w hw=>qkh h.ok h.sep hba hw
 have fB:∀w,w∈varY (putY s b)->qm w s=none:=fun w hw=>qkh h.ok h.sep hbb hw
 have vA:∀w,w∈varY (putY s a)->w∈V:=fun w hw=>qht h hba (fun w hw=>h.stk (a,b) (by simp) w (.inl hw)) hw
 have vB:∀w,w∈varY (putY s b)->w∈V:=fun w hw=>qht h hbb (fun w hw=>h.stk (a,b) (by simp) w (.inr hw)) hw
 rw[hdU]
 by_cases c1:(putY s a).con=[]
 ·rw[if_pos c1]
  have hvar:=q5b hA c1
  have hmem:(putY s a).var∈varY (putY s a):=by rw[hvar,var1];exact List.mem_singleton.2 rfl
  exact qyn h (.inl ⟨hvar,rfl⟩) hB (vA _ hmem) (fA _ hmem) vB fB
 rw[if_neg c1]
 by_cases c2:(putY s b).con=[]
 ·rw[if_pos c2]
  have hvar:=q5b hB c2
  have hmem:(putY s b).var∈varY (putY s b):=by rw[hvar,var1];exact List.mem_singleton.2 rfl
  exact qyn h (.inr ⟨hvar,rfl⟩) hA (vB _ hmem) (fB _ hmem) vA fA
 rw[if_neg c2]
 by_cases c3:(putY s a).con=(putY s b).con∧(putY s a).args.length=(putY s b).args.length
 ·rw[if_pos c3]
  have hA':putY s a=.mk (putY s a).con (putY s a).var (putY s a).args:=ty_eq.2 ⟨⟨rfl,rfl⟩,rfl⟩
  have hB':putY s b=.mk (putY s a).con (putY s b).var (putY s b).args:=ty_eq.2 ⟨⟨c3.1.symm,rfl⟩,rfl⟩
  refine .args _ _ _ _ _ hA' hB' c1 c3.2 (by rw[←hA'];exact hA) (by rw[←hB'];exact hB)
 ·rw[if_neg c3]
  exact .heads c1 c2 c3

def wtU(s:List Pr):List (Ty×Ty)->Nat
 | []=>0
 | x::r=>szY (putY s x.1)+wtU s r
theorem qrh(s:List Pr):∀a b,wtU s (a++b)=wtU s a+wtU s b
 | [],b=>by simp[wtU]
 | x::a,b=>by rw[List.cons_append,wtU,wtU,qrh s a b];omega
theorem qwf(s:List Pr):∀a,a.length≤wtU s a
 | []=>Nat.zero_le _
 | x::a=>by have:=qkg (putY s x.1);have:=qwf s a;rw[List.length_cons,wtU];omega
theorem q47{s:List Pr}:∀(l m:List Ty),(∀x∈l,putY s x=x)->wtU s (l.zip m)≤szYs l
 | [],m,_=>by simp[wtU]
 | x::l,[],_=>by simp[wtU]
 | x :: l, y :: m, h => by
   have:=q47 l m fun z hz=>h z (by simp[hz])
   rw[List.zip_cons_cons,wtU,szYs,h x (by simp)]
   omega
theorem q62{l m:List Ty}{x:Ty×Ty}(h:x∈l.zip m):x.1∈l∧x.2∈m:=⟨(List.of_mem_zip h).1,(List.of_mem_zip h).2⟩
theorem qlt:∀{l:List Ty} {t:Ty} {w:Int},t∈l->w∈varY t->w∈qc5 l
 | [],t,w,h,_=>by simp at h
 | x :: r, t, w, h, hw => by
   rw[qc5]
   rcases List.mem_cons.1 h with rfl | h
   ·simp[hw]
   ·simp[qlt h hw]
theorem qqk{c:List UInt8}{x:Int}{l:List Ty}{w:Int}(h:w∈qc5 l):w∈varY (.mk c x l):=by rw[qgq];simp[h]
theorem qhm{V:List Int}{s:List Pr}{a b:Ty}{st:List (Ty×Ty)}(h:Inv V s ((a,b)::st)){q:(List Pr×Int)×List (Ty×Ty)}(hq:StepU V s a b q)(he:q.1.2=0):
 Inv V q.1.1 (q.2++st)∧((q.1.1=s∧wtU s q.2<szY (putY s a)∧wtU s q.2≤4096)∨(q.2=[]∧q.1.1.length=s.length+1)):=by
 cases hq with
 | same hh=>exact⟨h.tail,.inl ⟨rfl,qkg _,by simp[wtU]⟩⟩
 | bind v t hp ht hv hn hV hf ho he' =>
   obtain⟨h1,h2⟩:=qbhr h.tail ht hv hn hV hf ho he'
   exact⟨h1,.inr ⟨rfl,h2⟩⟩
 | args c x y l m hA hB hc hl h1 h2 =>
   have ha:=qbp (h.leg (a,b) (by simp)).1
   have hb:=qbp (h.leg (a,b) (by simp)).2
   have hlf:∀z∈l,putY s z=z:=fun z hz=>qbik (qbp (qne (t:=.mk c x l) h1 hz)) fun w hw=>qkh h.ok h.sep ha (by rw[hA];exact qqk (qlt hz hw))
   have hw:=q47 l m hlf
   have hsz:szYs l<4096:=by
    have:=((qu _).1 h1).1
    rw[q7j] at this;omega
   refine⟨⟨h.ok,h.sep,h.keys,h.vars,fun z hz=>?_,fun z hz w hw=>?_⟩,.inl ⟨rfl,by rw[hA,q7j];show wtU s (l.zip m)<_;omega,by show wtU s (l.zip m)≤_;omega⟩⟩
   ·rcases List.mem_append.1 hz with hz | hz
    ·obtain⟨q1,q2⟩:=q62 hz
     exact⟨qne (t:=.mk c x l) h1 q1,qne (t:=.mk c y m) h2 q2⟩
    ·exact h.leg z (by simp[hz])
   ·rcases List.mem_append.1 hz with hz | hz
    ·obtain⟨q1,q2⟩:=q62 hz
     rcases hw with hw | hw
     ·exact qht h ha (fun w hw=>h.stk (a,b) (by simp) w (.inl hw)) (by rw[hA];exact qqk (qlt q1 hw))
     ·exact qht h hb (fun w hw=>h.stk (a,b) (by simp) w (.inr hw)) (by rw[hB];exact qqk (qlt q2 hw))
    ·exact h.stk z (by simp[hz]) w hw
 | limit=>cases he
 | heads=>cases he
 | occurs=>cases he
theorem qzo:∀(l m:List Int),l.Nodup->(∀x∈l,x∈m)->l.length≤m.length
 | [],m,_,_=>Nat.zero_le _
 | x :: l, m, hn, h => by
   rw[List.nodup_cons] at hn
   have hx:=h x (by simp)
   have:=qzo l (m.erase x) hn.2 fun y hy=>(List.mem_erase_of_ne (by intro e;subst e;exact hn.1 hy)).2 (h y (by simp[hy]))
   rw[List.length_erase_of_mem hx] at this
   have:=List.length_pos_of_mem hx
   rw[List.length_cons];omega
theorem Inv.len{V:List Int}{s:List Pr}{st:List (Ty×Ty)}(h:Inv V s st):s.length≤V.length:=by
 have:=qzo (s.map Pr.v) V (qsn h.ok.1) fun v hv=>by
  obtain⟨p,hp,rfl⟩:=List.mem_map.1 hv
  exact h.keys p hp
 rwa [List.length_map] at this
theorem q70{V:List Int}:∀(k m:Nat) (s:List Pr) (st:List (Ty×Ty)),Inv V s st->V.length-s.length≤k->wtU s st≤m->∃n r,slvU n s st=some r:=by
 intro k
 induction k with
 | zero =>
   intro m
   induction m with
   | zero =>
     intro s st h hk hm
     cases st with
     | nil=>exact⟨0,_,rfl⟩
     | cons x st=>have:=qkg (putY s x.1);rw[wtU] at hm;omega
   | succ m ih =>
     intro s st h hk hm
     cases st with
     | nil=>exact⟨0,_,rfl⟩
     | cons x st =>
       obtain⟨a,b⟩:=x
       by_cases he:(stpU s a b).1.2=0
       case neg=>exact⟨1,_,by rw[slvU,if_neg he]⟩
       obtain⟨h1,h2⟩:=qhm h (qg9 h) he
       rcases h2 with ⟨e1,h2,_⟩ | ⟨e1,h2⟩
       ·rw[e1] at h1
        obtain⟨n,r,hr⟩:=ih s _ h1 hk (by rw[qrh];rw[wtU] at hm;dsimp only at hm;omega)
        exact⟨n+1,r,by rw[slvU,if_pos he];dsimp only;rw[e1];exact hr⟩
       ·have:=h1.len
        have:=h.len
        omega
 | succ k ihk =>
   intro m
   induction m with
   | zero =>
     intro s st h hk hm
     cases st with
     | nil=>exact⟨0,_,rfl⟩
     | cons x st=>have:=qkg (putY s x.1);rw[wtU] at hm;omega
   | succ m ih =>
     intro s st h hk hm
     cases st with
     | nil=>exact⟨0,_,rfl⟩
     | cons x st =>
       obtain⟨a,b⟩:=x
       by_cases he:(stpU s a b).1.2=0
       case neg=>exact⟨1,_,by rw[slvU,if_neg he]⟩
       obtain⟨h1,h2⟩:=qhm h (qg9 h) he
       rcases h2 with ⟨e1,h2,_⟩ | ⟨e1,h2⟩
       ·rw[e1] at h1
        obtain⟨n,r,hr⟩:=ih s _ h1 hk (by rw[qrh];rw[wtU] at hm;dsimp only at hm;omega)
        exact⟨n+1,r,by rw[slvU,if_pos he];dsimp only;rw[e1];exact hr⟩
       ·obtain⟨n,r,hr⟩:=ihk _ _ _ h1 (by omega) (Nat.le_refl _)
        exact⟨n+1,r,by rw[slvU,if_pos he];exact hr⟩
/-! what is told makes them one -/
theorem qb8p{f:Int->Ty}{v:Int}{t:Ty}(h:f v=subF f t):abs f [⟨v,t⟩]:=fun x=>by
 by_cases hx:v=x
 ·rw[funR,q0l,if_pos hx,←hx,h];rfl
 ·rw[funR,q0l,if_neg hx,Option.getD_none,subF,if_pos rfl]
theorem qbae{V:List Int}{f:Int->Ty}{s:List Pr}(hs:okS s){v:Int}{t:Ty}(ht:qi t=true)(hn:qm v s=none)(he:(behR s [⟨v,t⟩]).2=0)(h:abs f (behR s [⟨v,t⟩]).1):abs f s∧f v=subF f t:=by
 have hf:=qba3 hs ht hn he
 have hv:f v=subF f t:=by
  have:=h v
  rw[hf v,hn] at this
  simp only[if_true] at this
  exact this.symm
 refine⟨fun x=>?_,hv⟩
 cases hl:qm x s with
 | none=>rw[qd9 hl,subF,if_pos rfl]
 | some u =>
   have:=h x
   rw[hf x,hl] at this
   simp only at this
   rw[funR,hl,Option.getD_some,←qw4 (qb8p hv) (qbp (qxz hs hl))]
   exact this
theorem qbaz{s:List Pr}(hs:okS s)(h:sep s):abs (funR s) s:=fun v=>by
 cases hl:qm v s with
 | none=>rw[qd9 hl,subF,if_pos rfl,qd9 hl]
 | some u =>
   have hu:funR s v=u:=by rw[funR,hl];rfl
   rw[hu]
   obtain⟨p,hp,rfl,rfl⟩:=qcq hl
   exact qvj _ _ (qbp (hs.2 p hp)) fun w hw=>qd9 (h p hp w hw)
theorem q6h(f:Int->Ty)(v:Int):subF f (.mk [] v [])=f v:=by rw[subF,if_pos rfl]
theorem qyi{f:Int->Ty}:∀(l m:List Ty),l.length=m.length->((∀x∈l.zip m,subF f x.1=subF f x.2)↔qd5 f l=qd5 f m)
 | [],[],_=>by simp[qd5]
 | [],y::m,h=>by simp at h
 | x::l,[],h=>by simp at h
 | x :: l, y :: m, h => by
   rw[qd5,qd5,List.cons.injEq,←qyi l m (by simpa using h),List.zip_cons_cons]
   simp only[List.mem_cons,forall_eq_or_imp]
theorem q76(f:Int->Ty){t:Ty}(h:t.con≠[]):subF f t=.mk t.con t.var (qd5 f t.args):=by
 cases t with
 | mk c v l =>
   have h':c≠[]:=h
   rw[subF,if_neg h'];rfl
theorem qhj{V:List Int}:∀(n:Nat) (s:List Pr) (st:List (Ty×Ty)) (r:List Pr×Int),Inv V s st->slvU n s st=some r->r.2=0 →
 Inv V r.1 []∧abs (funR r.1) s∧∀x∈st,subF (funR r.1) x.1=subF (funR r.1) x.2
 | n, s, [], r, h, hr, he => by
   rw[qgh] at hr
   simp only[Option.some.injEq] at hr
   subst hr
   exact⟨h,qbaz h.ok h.sep,fun x hx=>by simp at hx⟩
 | 0,s,x::st,r,h,hr,he=>by simp[slvU] at hr
 | n + 1, s, (a, b) :: st, r, h, hr, he => by
   rw[slvU] at hr
   dsimp only at hr
   by_cases e0:(stpU s a b).1.2=0
   case neg =>
    rw[if_neg e0] at hr
    simp only[Option.some.injEq] at hr
    subst hr
    exact absurd he e0
   rw[if_pos e0] at hr
   have hc:=qg9 h
   obtain⟨h1,_⟩:=qhm h hc e0
   obtain⟨q1,q2,q3⟩:=qhj n _ _ r h1 hr he
   have hba:=qbp (h.leg (a,b) (by simp)).1
   have hbb:=qbp (h.leg (a,b) (by simp)).2
   generalize stpU s a b=q at hc e0 h1 q2 q3 hr
   have fin:abs (funR r.1) s->subF (funR r.1) (putY s a)=subF (funR r.1) (putY s b)->(∀x∈st,subF (funR r.1) x.1=subF (funR r.1) x.2)->Inv V r.1 []∧abs (funR r.1) s∧∀x∈(a,b)::st,subF (funR r.1) x.1=subF (funR r.1) x.2:=fun k1 k2 k3=>by
    refine⟨q1,k1,fun x hx=>?_⟩
    rcases List.mem_cons.1 hx with rfl | hx
    ·rwa [qw4 k1 hba,qw4 k1 hbb] at k2
    ·exact k3 x hx
   cases hc with
   | same hh=>exact fin q2 (by rw[hh]) fun x hx=>q3 x (by simp[hx])
   | bind v t hp ht hv hn hV hf ho he' =>
     obtain⟨k1,k2⟩:=qbae (V:=V) h.ok ht hn he' q2
     refine fin k1 ?_ fun x hx=>q3 x (by simpa using hx)
     rcases hp with ⟨p1,p2⟩ | ⟨p1,p2⟩
     ·rw[p1,p2,q6h,k2]
     ·rw[p1,p2,q6h,k2]
   | args c x y l m hA hB hc' hl g1 g2 =>
     refine fin q2 ?_ fun x hx=>q3 x (by simp[hx])
     have hx0:=qxg ((qu _).1 g1).2.2 hc'
     have hy0:=qxg ((qu _).1 g2).2.2 hc'
     rw[hA,hB,q76 _ (t:=.mk c x l) hc',q76 _ (t:=.mk c y m) hc']
     refine ty_eq.2 ⟨⟨rfl,hx0.trans hy0.symm⟩,?_⟩
     exact(qyi l m hl).1 fun z hz=>q3 z (by simp[hz])
   | limit=>cases e0
   | heads=>cases e0
   | occurs=>cases e0
/-! how much may lie on the stack -/
def Bd(k:Nat)(s:List Pr)(st:List (Ty×Ty)):Prop:=∃P O,st=P++O∧wtU s P≤4096∧O.length≤k+4097*s.length
theorem qca0{V:List Int}{k:Nat}{s:List Pr}{a b:Ty}{st:List (Ty×Ty)}(h:Inv V s ((a,b)::st))(hb:Bd k s ((a,b)::st)){q:(List Pr×Int)×List (Ty×Ty)}(hq:StepU V s a b q)(he:q.1.2=0):Bd k q.1.1 (q.2++st):=by
 obtain⟨P,O,e,h1,h2⟩:=hb
 obtain⟨_,h3⟩:=qhm h hq he
 cases P with
 | nil =>
   rw[List.nil_append] at e
   subst e
   rw[List.length_cons] at h2
   rcases h3 with ⟨e1,_,h3⟩ | ⟨e1,h3⟩
   ·rw[e1];exact⟨q.2,st,rfl,h3,by omega⟩
   ·rw[e1];exact⟨[],st,rfl,by simp[wtU],by rw[h3];omega⟩
 | cons x P =>
   rw[List.cons_append,List.cons.injEq] at e
   obtain⟨rfl,rfl⟩:=e
   rw[wtU] at h1
   rcases h3 with ⟨e1,h4,h3⟩ | ⟨e1,h3⟩
   ·rw[e1];exact⟨q.2++P,O,by rw[List.append_assoc],by rw[qrh];dsimp only at h1;omega,h2⟩
   ·have:=qwf s P
    rw[e1];exact⟨[],P++O,rfl,by simp[wtU],by rw[h3,List.length_append];omega⟩
theorem qcm3{k:Nat}{s:List Pr}{st:List (Ty×Ty)}(h:Bd k s st):st.length≤4096+k+4097*s.length:=by
 obtain⟨P,O,rfl,h1,h2⟩:=h
 have:=qwf s P
 rw[List.length_append];omega
set_option maxRecDepth 4000

def hasN(v:Int)(t:Ty):Bool:=decide (t.con=[])&&decide (t.var=v)
def q0c(v:Int)(u:Unit)(t:Ty)(_:Int):Unit×Bool:=(u,!hasN v t)
theorem has1(v:Int)(t:Ty)(k:Int):VM Tryz.prog 243 (.blk [.int .i64 v]) (.blk [.int .i64 v]) [encY t,.int .i64 k,.ptr 0 0] (.bool (!hasN v t)):=by
 refine qe c0el 1 (by simp) (by simp) ?_
 repeat'(first|refine vs_ ?_|((first|refine vr_ ?_|(refine cs_ ?_ ?_<;>intro hc)|refine cj_ ?_)<;>try refine ev_ ?_)|with_reducible exact ti_)
 all_goals simp_all[hasN]
mutual
theorem qcg0(v:Int):∀(t:Ty) (k:Int),(qdc (q0c v) t () k).2=!decide (v∈varY t)
 | .mk c x l, k => by
   rw[qdc,varY]
   by_cases hc:c=[]
   ·by_cases hx:x=v
    ·rw[if_neg (by simp[q0c,hasN,Ty.con,Ty.var,hc,hx])];simp[hc,hx]
    ·rw[if_pos (by simp[q0c,hasN,Ty.con,Ty.var,hc,hx]),q71 v l];simp[hc,Ne.symm hx]
   ·rw[if_pos (by simp[q0c,hasN,Ty.con,hc]),q71 v l];simp[hc]
theorem q71(v:Int):∀(l:List Ty) (u:Unit) (k:Int),(qch (q0c v) l u k).2=!decide (v∈qc5 l)
 | [],u,k=>by rw[qch,qc5];simp
 | x :: r, u, k => by
   have h1:=qcg0 v x k
   rw[qch,qc5]
   cases u
   by_cases hv:v∈varY x
   ·rw[if_neg (by rw[h1];simp[hv])];simp[hv]
   ·rw[if_pos (by rw[h1];simp[hv]),q71 v r];simp[hv]
end
theorem quu(t:Ty)(v:Int):qj Tryz.prog 233 [encY t,.int .i64 v] (.bool (decide (v∈varY t))):=by
 refine qd c0em (by simp) (by simp only[go_sem]) rfl fun hw=>?_
 have hwalk:=qp0 (S:=Unit) (st:=fun _=>.blk [.int .i64 v]) (step:=q0c v) (f:=243) (ok:=fun _ _=>True) (fun _=>rfl) (fun _ _ _ _ _=>trivial) (fun _ _ _=>trivial) (fun u t k _=>has1 v t k) t () 1 trivial
 rw[qcg0] at hwalk
 repeat'(first|refine vs_ ?_|((first|refine vr_ ?_|refine qca 1 hwalk ?_|(refine cs_ ?_ ?_<;>intro hc)|refine cj_ ?_)<;>try refine ev_ ?_)|with_reducible exact ti_)
 rw[Bool.not_not]

/-! functions' types -/
section
variable {S:Type} {l:List Ty} {m i p:Nat} {hs:S->List Ent} {f:Ty->S->S} (hlen:∀s,(hs s).length=m) (hbd:∀s,(hs s).all (Ent.bd m)=true) (hi:i<m) (hpm:p<m) (hp:∀s,ent (hs s) p=.blk [.sl 3 (qf l)])
 (app:∀s k n (Q:List Ent->VO->Prop),Q (hs (f n s)) (.val (.bool true))->VApp Tryz.prog (hs s) (.opq i) [.int .i64 k,encY n] Q)
include hlen hbd hi hpm hp app
end
/-! what is split -/

theorem q5q{t:Ty}(h:qef [t]=true):szY t≤20000∧dpY t≤300:=by
 have:=qu9 (l:=[t]) (by unfold maxLen;simp) h
 have h1:=qdp (l:=[t]) (x:=t) (by simp)
 have h2:=qnu (l:=[t]) (x:=t) (by simp)
 omega
theorem q9e{s:List Pr}(h:okS s){t:Ty}(he:(appR s t).2=0):szY (appR s t).1≤20000∧dpY (appR s t).1≤300:=by
 obtain⟨_,q2,q3⟩:=qb0 h he
 rw[q3]
 have:=(qu _).1 q2
 omega
set_option maxRecDepth 4000

set_option maxRecDepth 4000

end Go.Proofs.YtkenggenkmfopaaGreat
