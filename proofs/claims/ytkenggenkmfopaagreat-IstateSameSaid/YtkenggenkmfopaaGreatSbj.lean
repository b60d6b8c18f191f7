/- Texts of this proof, joined. -/
import Derived.Test.YtkenggenkmfopaaGreatSbi
import Derived.Test.YtkenggenkmfopaaGreatSap
import Derived.Test.YtkenggenkmfopaaGreatSag
import Derived.Test.YtkenggenkmfopaaGreatSbc
set_option linter.unusedVariables false
set_option linter.unusedSimpArgs false

/- matching: what it finds -/
namespace Go.Proofs.YtkenggenkmfopaaGreat
open Go Go.RowKit Go.V

mutual
def subF(f:Int->Ty):Ty->Ty
 | .mk c v l=>if c=[] then f v else .mk c v (qec f l)
def qec(f:Int->Ty):List Ty->List Ty
 | []=>[]
 | x::r=>subF f x::qec f r
end
theorem q4p(f:Int->Ty):∀l,(qec f l).length=l.length
 | []=>rfl
 | x::r=>by rw[qec,List.length_cons,List.length_cons,q4p f r]
def funR(s:List Pr)(v:Int):Ty:=(qm v s).getD (.mk [] v [])
mutual
theorem qer(s:List Pr):∀t,bare t->putY s t=subF (funR s) t
 | .mk c v l, h => by
   rw[bare] at h
   rw[putY,subF]
   split
   ·rename_i hc
    have hl:l=[]:=h.1 hc
    subst hl
    rw[funR]
    subst hc
    cases qm v s<;>rfl
   ·rw[qsv s l h.2]
theorem qsv(s:List Pr):∀l,qgl l->qb0 s l=qec (funR s) l
 | [],_=>by rw[qb0,qec]
 | x :: r, h => by
   rw[qgl] at h
   rw[qb0,qec,qer s x h.1,qsv s r h.2]
end
mutual
theorem qtq(f g:Int->Ty):∀t,subF g (subF f t)=subF (fun v=>subF g (f v)) t
 | .mk c v l => by
   rw[subF,subF]
   split
   ·rfl
   ·rename_i hc
    rw[subF,if_neg hc,qpt f g l]
theorem qpt(f g:Int->Ty):∀l,qec g (qec f l)=qec (fun v=>subF g (f v)) l
 | []=>by simp only[qec]
 | x::r=>by rw[qec,qec,qec,qtq f g x,qpt f g r]
end
theorem q6e(c:List UInt8)(v:Int)(l:List Ty):szY (.mk c v l)=1+szYs l:=by rw[szY]
theorem qgx(c:List UInt8)(v:Int)(l:List Ty):varY (.mk c v l)=(if c=[] then [v] else [])++qc7 l:=by rw[varY]
theorem qy3{t:Ty}(h:qch t=true)(hc:t.con≠[]):t.var=0:=by
 rw[qdm,Bool.and_eq_true] at h
 have h2:=h.2
 rw[mayY,mayW,if_neg hc] at h2
 split at h2
 ·simp at h2;exact h2.1
 split at h2
 ·simp at h2;exact h2.1
 ·simp at h2;exact h2.1

theorem qbi{t:Ty}(h:qh t=true):bare t:=qdz t ((qs t).1 h).2.2
theorem qvg:∀{s:List Pr},risR s->(s.map Pr.v).Nodup
 | [],_=>List.Pairwise.nil
 | p :: r, h => by
   rw[List.map_cons,List.nodup_cons]
   refine⟨fun hm=>?_,qvg h.2⟩
   obtain⟨q,h1,h2⟩:=List.mem_map.1 hm
   have:=h.1 q h1
   omega
/-! the reference's -/
theorem ql8{t a:Ty}(h:qh t=true)(ha:a∈t.args):qh a=true:=by
 obtain⟨h1,h2,h3⟩:=(qs t).1 h
 have q1:=qdd ha
 have q2:=qkf ha
 rw[qdf] at h1
 rw[qpb] at h2
 rw[qdm,Bool.and_eq_true] at h3
 refine(qs a).2 ⟨by omega,by omega,?_⟩
 have:∀l:List Ty,qbo l=true->∀a∈l,qch a=true:=fun l=>by
  induction l with
  | nil=>intro _ a ha;cases ha
  | cons x r ih =>
    intro hl a ha
    rw[qbo,Bool.and_eq_true] at hl
    rcases List.mem_cons.1 ha with rfl | ha
    ·exact hl.1
    ·exact ih hl.2 a ha
 exact this _ h3.1 a ha

def bndU(s:List Pr)(v:Int)(t:Ty):List Pr×Int:=if t.con=[]∧t.var=v then(s,0) else if v∈varY t then([],15) else behR s [⟨v,t⟩]
def hdU(s:List Pr)(A B:Ty):(List Pr×Int)×List (Ty×Ty) :=
 if A.con=[] then(bndU s A.var B,[]) else if B.con=[] then(bndU s B.var A,[]) else if A.con=B.con∧A.args.length=B.args.length then((s,0),A.args.zip B.args) else(([],14),[])
def stpU(s:List Pr)(a b:Ty):(List Pr×Int)×List (Ty×Ty) :=
 if(appR s a).2=0 then(if(appR s b).2=0 then hdU s (appR s a).1 (appR s b).1 else(([],(appR s b).2),[])) else(([],(appR s a).2),[])
def slvU:Nat->List Pr->List (Ty×Ty)->Option (List Pr×Int)
 | _,s,[]=>some (s,0)
 | 0,_,_::_=>none
 | n+1,s,x::r=>if(stpU s x.1 x.2).1.2=0 then slvU n (stpU s x.1 x.2).1.1 ((stpU s x.1 x.2).2++r) else some ([],(stpU s x.1 x.2).1.2)
theorem qgc(n:Nat)(s:List Pr):slvU n s []=some (s,0):=by cases n<;>rfl
theorem qk4:∀(n:Nat) (s:List Pr) (xs ys:List (Ty×Ty)) (r:List Pr×Int),slvU n s (xs++ys)=some r →
 ∃m q,m≤n∧slvU m s xs=some q∧(q.2≠0->r=q∧q.1=[])∧(q.2=0->∃k,k≤n∧slvU k q.1 ys=some r)
 | n,s,[],ys,r,h=>⟨n,(s,0),Nat.le_refl _,qgc _ _,fun h=>absurd rfl h,fun _=>⟨n,Nat.le_refl _,h⟩⟩
 | 0,s,x::xs,ys,r,h=>by simp[slvU] at h
 | n + 1, s, x :: xs, ys, r, h => by
   rw[List.cons_append,slvU] at h
   by_cases he:(stpU s x.1 x.2).1.2=0
   ·rw[if_pos he,←List.append_assoc] at h
    obtain⟨m,q,h1,h2,h3,h4⟩:=qk4 n _ _ ys r h
    refine⟨m+1,q,by omega,by rw[slvU,if_pos he];exact h2,h3,fun hq=>?_⟩
    obtain⟨k,h5,h6⟩:=h4 hq
    exact⟨k,by omega,h6⟩
   ·rw[if_neg he] at h
    refine⟨1,([],(stpU s x.1 x.2).1.2),by omega,by rw[slvU,if_neg he],fun _=>⟨?_,rfl⟩,fun hq=>absurd hq he⟩
    simpa using h.symm
/-! types under functions -/
theorem var1(v:Int):varY (.mk [] v [])=[v]:=by rw[qgx,qc7,if_pos rfl];rfl
mutual
theorem qjw(f:Int->Ty):∀t,bare t->∀w,w∈varY (subF f t)->∃v,v∈varY t∧w∈varY (f v)
 | .mk c v l, hb, w, hw => by
   rw[bare] at hb
   rw[subF] at hw
   by_cases hc:c=[]
   ·rw[if_pos hc] at hw
    exact⟨v,by rw[qgx,if_pos hc];simp,hw⟩
   ·rw[if_neg hc,qgx,if_neg hc,List.nil_append] at hw
    obtain⟨x,h1,h2⟩:=qsb f l hb.2 w hw
    exact⟨x,by rw[qgx];simp[h1],h2⟩
theorem qsb(f:Int->Ty):∀l,qgl l->∀w,w∈qc7 (qec f l)->∃v,v∈qc7 l∧w∈varY (f v)
 | [],hb,w,hw=>by rw[qec,qc7] at hw;simp at hw
 | x :: r, hb, w, hw => by
   rw[qec,qc7] at hw
   rcases List.mem_append.1 hw with hw | hw
   ·obtain⟨v,h1,h2⟩:=qjw f x hb.1 w hw
    exact⟨v,by rw[qc7];simp[h1],h2⟩
   ·obtain⟨v,h1,h2⟩:=qsb f r hb.2 w hw
    exact⟨v,by rw[qc7];simp[h1],h2⟩
end
mutual
theorem qxe(f:Int->Ty):∀t,bare t->(∀w,w∈varY t->f w=.mk [] w [])->subF f t=t
 | .mk c v l, hb, h => by
   rw[bare] at hb
   rw[subF]
   by_cases hc:c=[]
   ·rw[if_pos hc,h v (by rw[qgx,if_pos hc];simp),hc,hb.1 hc]
   ·rw[if_neg hc,qyn f l hb.2 fun w hw=>h w (by rw[qgx];simp[hw])]
theorem qyn(f:Int->Ty):∀l,qgl l->(∀w,w∈qc7 l->f w=.mk [] w [])->qec f l=l
 | [],_,_=>by rw[qec]
 | x :: r, hb, h => by
   rw[qec,qxe f x hb.1 fun w hw=>h w (by rw[qc7];simp[hw]),qyn f r hb.2 fun w hw=>h w (by rw[qc7];simp[hw])]
end
theorem qea{s:List Pr}{v:Int}(h:qm v s=none):funR s v=.mk [] v []:=by rw[funR,h];rfl
def abs(f:Int->Ty)(s:List Pr):Prop:=∀v,subF f (funR s v)=f v
theorem qv3{f:Int->Ty}{s:List Pr}(h:abs f s){t:Ty}(hb:bare t):subF f (putY s t)=subF f t:=by
 rw[qer s t hb,qtq]
 congr 1
 exact funext h
def sep(s:List Pr):Prop:=∀p∈s,∀w,w∈varY p.ty->qm w s=none
theorem qii{s:List Pr}(ho:okS s)(h:sep s){t:Ty}(hb:bare t){w:Int}(hw:w∈varY (putY s t)):qm w s=none:=by
 rw[qer s t hb] at hw
 obtain⟨v,h1,h2⟩:=qjw _ t hb w hw
 cases hl:qm v s with
 | none=>rw[qea hl,var1] at h2;simp at h2;subst h2;exact hl
 | some u =>
   rw[funR,hl] at h2
   obtain⟨p,hp,rfl,rfl⟩:=qcg hl
   exact h p hp w h2
theorem qx1{s:List Pr}{t:Ty}(hb:bare t)(h:∀w,w∈varY t->qm w s=none):putY s t=t:=by
 rw[qer s t hb]
 exact qxe _ t hb fun w hw=>qea (h w hw)
theorem qbz9{s:List Pr}(ho:okS s)(h:sep s){t:Ty}(hb:bare t)(hb':bare (putY s t)):putY s (putY s t)=putY s t:=qx1 hb' fun w hw=>qii ho h hb hw
/-! a variable more -/
theorem q6d{s:List Pr}(hs:okS s){t:Ty}(ht:qh t=true):(appR s t).2=0∨(appR s t).2=2:=by
 rw[qwi hs,if_pos ht];split
 ·exact .inl rfl
 ·exact .inr rfl
theorem q78{t:List Pr}(ht:okS t):∀(s acc:List Pr),(∀p∈s,qh p.ty=true)->(qfs t acc s).2=0∨(qfs t acc s).2=2
 | [],acc,_=>.inl rfl
 | p :: r, acc, h => by
   rw[qfs]
   split
   ·exact q78 ht r _ fun q hq=>h q (by simp[hq])
   ·rename_i hn
    exact .inr ((q6d ht (h p (by simp))).resolve_left hn)
theorem qbk9{s t:List Pr}(hs:okS s)(ht:okS t):(behR s t).2=0∨(behR s t).2=2∧(behR s t).1=[]:=by
 rw[behR]
 split
 ·exact .inl rfl
 ·rename_i h
  exact .inr ⟨(q78 ht s [] hs.2).resolve_left h,rfl⟩
theorem qe8{v:Int}{B:Ty}(h:qh B=true):okS [⟨v,B⟩]:=⟨⟨fun q hq=>by simp at hq,trivial⟩,fun p hp=>by simp at hp;subst hp;exact h⟩
theorem qbwh{s:List Pr}(hs:okS s){v:Int}{B:Ty}(hB:qh B=true)(hn:qm v s=none)(he:(behR s [⟨v,B⟩]).2=0):(behR s [⟨v,B⟩]).1=insR v B (s.map fun p=>⟨p.v,putY [⟨v,B⟩] p.ty⟩):=by
 rw[behR] at he ⊢
 split at he
 ·rename_i h0
  rw[if_pos h0]
  obtain⟨q1,_⟩:=qjd (qe8 hB) s [] h0
  rw[List.nil_append] at q1
  show(setR _ v B).1=_
  rw[q1,setR,if_pos hB,qqm,hn];rfl
 ·rename_i h0;exact absurd he h0
theorem q0z(x v:Int)(B:Ty):qm x [⟨v,B⟩]=if v=x then some B else none:=by rw[qm];rfl
theorem qbed{s:List Pr}(hs:okS s){v:Int}{B:Ty}(hB:qh B=true)(hn:qm v s=none)(he:(behR s [⟨v,B⟩]).2=0)(x:Int):funR (behR s [⟨v,B⟩]).1 x=match qm x s with | some u=>putY [⟨v,B⟩] u | none=>if x=v then B else .mk [] x []:=by
 rw[funR,qjo hs (qe8 hB) he,q0z]
 cases hl:qm x s with
 | some u=>rfl
 | none =>
   by_cases hx:x=v
   ·rw[if_pos hx,if_pos hx.symm];rfl
   ·rw[if_neg hx,if_neg (fun h=>hx h.symm)];rfl
structure Inv(V:List Int)(s:List Pr)(st:List (Ty×Ty)):Prop where
 ok:okS s
 sep:sep s
 keys:∀p∈s,p.v∈V
 vars:∀p∈s,∀w,w∈varY p.ty->w∈V
 leg:∀x∈st,qh x.1=true∧qh x.2=true
 stk:∀x∈st,∀w,w∈varY x.1∨w∈varY x.2->w∈V
theorem Inv.tail{V:List Int}{s:List Pr}{x:Ty×Ty}{st:List (Ty×Ty)}(h:Inv V s (x::st)):Inv V s st :=
 ⟨h.ok,h.sep,h.keys,h.vars,fun y hy=>h.leg y (by simp[hy]),fun y hy=>h.stk y (by simp[hy])⟩
theorem q8w{t:Ty}(h:qh t=true)(hc:t.con=[]):t=.mk [] t.var []:=ty_eq.2 ⟨⟨hc,rfl⟩,qse (qge h) hc⟩
theorem qhy{V:List Int}{s:List Pr}{st:List (Ty×Ty)}(h:Inv V s st){t:Ty}(hb:bare t)(ht:∀w,w∈varY t->w∈V){w:Int}(hw:w∈varY (putY s t)):w∈V:=by
 rw[qer s t hb] at hw
 obtain⟨v,h1,h2⟩:=qjw _ t hb w hw
 cases hl:qm v s with
 | none=>rw[qea hl,var1] at h2;simp at h2;subst h2;exact ht _ h1
 | some u =>
   rw[funR,hl] at h2
   obtain⟨p,hp,rfl,rfl⟩:=qcg hl
   exact h.vars p hp w h2
theorem qbh3{V:List Int}{s:List Pr}{st:List (Ty×Ty)}(h:Inv V s st){v:Int}{B:Ty}(hB:qh B=true)(hv:v∈V)(hn:qm v s=none)(hBV:∀w,w∈varY B->w∈V)(hBn:∀w,w∈varY B->qm w s=none)(ho:v∉varY B)(he:(behR s [⟨v,B⟩]).2=0):
 Inv V (behR s [⟨v,B⟩]).1 st∧(behR s [⟨v,B⟩]).1.length=s.length+1:=by
 have heq:=qbwh h.ok hB hn he
 have hok:=qxl h.ok (qe8 (v:=v) hB)
 have hlk:=qjo h.ok (qe8 (v:=v) hB) he
 have hmem:∀p∈(behR s [⟨v,B⟩]).1,p=⟨v,B⟩∨∃q∈s,p=⟨q.v,putY [⟨v,B⟩] q.ty⟩:=fun p hp=>by
  rw[heq] at hp
  rcases insR_mem.1 hp with rfl | hp
  ·exact .inl rfl
  ·obtain⟨q,hq,rfl⟩:=List.mem_map.1 hp
   exact .inr ⟨q,hq,rfl⟩
 have hpv:∀q∈s,∀w,w∈varY (putY [⟨v,B⟩] q.ty)->(w∈varY q.ty∧w≠v)∨w∈varY B:=fun q hq w hw=>by
  have hb:=qbi (h.ok.2 q hq)
  rw[qer _ _ hb] at hw
  obtain⟨x,h1,h2⟩:=qjw _ _ hb w hw
  by_cases hx:v=x
  ·rw[funR,q0z,if_pos hx] at h2
   exact .inr h2
  ·rw[funR,q0z,if_neg hx,Option.getD_none,var1] at h2
   simp at h2
   subst h2
   exact .inl ⟨h1,fun h=>hx h.symm⟩
 have hfree:∀w,qm w s=none->w≠v->qm w (behR s [⟨v,B⟩]).1=none:=fun w h1 h2=>by
  rw[hlk,h1,q0z,if_neg (fun h=>h2 h.symm)]
 refine⟨⟨hok,fun p hp w hw=>?_,fun p hp=>?_,fun p hp w hw=>?_,h.leg,h.stk⟩,by rw[heq,qrv,List.length_map]⟩
 ·rcases hmem p hp with rfl | ⟨q,hq,rfl⟩
  ·exact hfree w (hBn w hw) fun h=>ho (h ▸ hw)
  ·rcases hpv q hq w hw with ⟨h1,h2⟩ | h1
   ·exact hfree w (h.sep q hq w h1) h2
   ·exact hfree w (hBn w h1) fun h=>ho (h ▸ h1)
 ·rcases hmem p hp with rfl | ⟨q,hq,rfl⟩
  ·exact hv
  ·exact h.keys q hq
 ·rcases hmem p hp with rfl | ⟨q,hq,rfl⟩
  ·exact hBV w hw
  ·rcases hpv q hq w hw with ⟨h1,h2⟩ | h1
   ·exact h.vars q hq w h1
   ·exact hBV w h1
def qca1(A B:Ty)(v:Int)(t:Ty):Prop:=(A=.mk [] v []∧B=t)∨(B=.mk [] v []∧A=t)
inductive StepU(V:List Int)(s:List Pr)(a b:Ty):(List Pr×Int)×List (Ty×Ty)->Prop
 | same (h:putY s a=putY s b):StepU V s a b ((s,0),[])
 | bind (v:Int) (t:Ty) (hp:qca1 (putY s a) (putY s b) v t) (ht:qh t=true) (hv:v∈V) (hn:qm v s=none) (hV:∀w,w∈varY t->w∈V) (hf:∀w,w∈varY t->qm w s=none) (ho:v∉varY t) (he:(behR s [⟨v,t⟩]).2=0):StepU V s a b (behR s [⟨v,t⟩],[])
 | args (c:List UInt8) (x y:Int) (l m:List Ty) (hA:putY s a=.mk c x l) (hB:putY s b=.mk c y m) (hc:c≠[]) (hl:l.length=m.length) (h1:qh (.mk c x l)=true) (h2:qh (.mk c y m)=true):StepU V s a b ((s,0),l.zip m)
 | limit:StepU V s a b (([],2),[])
 | heads (h1:(putY s a).con≠[]) (h2:(putY s b).con≠[]) (h:¬((putY s a).con=(putY s b).con∧(putY s a).args.length=(putY s b).args.length)):StepU V s a b (([],14),[])
 | occurs (v:Int) (t:Ty) (hp:qca1 (putY s a) (putY s b) v t) (ht:qh t=true) (hv:v∈varY t) (hn:¬(t.con=[]∧t.var=v)):StepU V s a b (([],15),[])
theorem qzh{V:List Int}{s:List Pr}{a b:Ty}{st:List (Ty×Ty)}(h:Inv V s st){v:Int}{t:Ty}(hp:qca1 (putY s a) (putY s b) v t)(ht:qh t=true)(hv:v∈V)(hn:qm v s=none)(hV:∀w,w∈varY t->w∈V)(hf:∀w,w∈varY t->qm w s=none):StepU V s a b (bndU s v t,[]):=by
 rw[bndU]
 split
 ·rename_i h1
  refine .same ?_
  have:t=.mk [] v []:=by rw[q8w ht h1.1,h1.2]
  rcases hp with ⟨p1,p2⟩ | ⟨p1,p2⟩
  ·rw[p1,p2,this]
  ·rw[p1,p2,this]
 ·rename_i h1
  split
  ·rename_i h2
   exact .occurs v t hp ht h2 h1
  ·rename_i h2
   rcases qbk9 h.ok (qe8 (v:=v) ht) with he | ⟨he,he'⟩
   ·exact .bind v t hp ht hv hn hV hf h2 he
   ·rw[show behR s [⟨v,t⟩]=([],2) from Prod.ext he' he]
    exact .limit
theorem qhl{V:List Int}{s:List Pr}{a b:Ty}{st:List (Ty×Ty)}(h:Inv V s ((a,b)::st)):StepU V s a b (stpU s a b):=by
 obtain⟨ha,hb⟩:=h.leg (a,b) (by simp)
 have hba:=qbi ha
 have hbb:=qbi hb
 rw[stpU]
 by_cases e1:(appR s a).2=0
 case neg =>
  rw[if_neg e1,(q6d h.ok ha).resolve_left e1];exact .limit
 rw[if_pos e1]
 by_cases e2:(appR s b).2=0
 case neg =>
  rw[if_neg e2,(q6d h.ok hb).resolve_left e2];exact .limit
 rw[if_pos e2]
 obtain⟨_,hA,eA⟩:=qb1 h.ok e1
 obtain⟨_,hB,eB⟩:=qb1 h.ok e2
 rw[eA,eB]
 have fA:∀w,w∈varY (putY s a)->qm w s=none:=fun w hw=>qii h.ok h.sep hba hw
 have fB:∀w,w∈varY (putY s b)->qm w s=none:=fun w hw=>qii h.ok h.sep hbb hw
 have vA:∀w,w∈varY (putY s a)->w∈V:=fun w hw=>qhy h hba (fun w hw=>h.stk (a,b) (by simp) w (.inl hw)) hw
 have vB:∀w,w∈varY (putY s b)->w∈V:=fun w hw=>qhy h hbb (fun w hw=>h.stk (a,b) (by simp) w (.inr hw)) hw
 rw[hdU]
 by_cases c1:(putY s a).con=[]
 ·rw[if_pos c1]
  have hvar:=q8w hA c1
  have hmem:(putY s a).var∈varY (putY s a):=by rw[hvar,var1];exact List.mem_singleton.2 rfl
  exact qzh h (.inl ⟨hvar,rfl⟩) hB (vA _ hmem) (fA _ hmem) vB fB
 rw[if_neg c1]
 by_cases c2:(putY s b).con=[]
 ·rw[if_pos c2]
  have hvar:=q8w hB c2
  have hmem:(putY s b).var∈varY (putY s b):=by rw[hvar,var1];exact List.mem_singleton.2 rfl
  exact qzh h (.inr ⟨hvar,rfl⟩) hA (vB _ hmem) (fB _ hmem) vA fA
 rw[if_neg c2]
 by_cases c3:(putY s a).con=(putY s b).con∧(putY s a).args.length=(putY s b).args.length
 ·rw[if_pos c3]
  have hA':putY s a=.mk (putY s a).con (putY s a).var (putY s a).args:=ty_eq.2 ⟨⟨rfl,rfl⟩,rfl⟩
  have hB':putY s b=.mk (putY s a).con (putY s b).var (putY s b).args:=ty_eq.2 ⟨⟨c3.1.symm,rfl⟩,rfl⟩
  refine .args _ _ _ _ _ hA' hB' c1 c3.2 (by rw[←hA'];exact hA) (by rw[←hB'];exact hB)
 ·rw[if_neg c3]
  exact .heads c1 c2 c3

def wtU(s:List Pr):List (Ty×Ty)->Nat
 | []=>0
 | x::r=>szY (putY s x.1)+wtU s r
theorem qq6(s:List Pr):∀a b,wtU s (a++b)=wtU s a+wtU s b
 | [],b=>by simp[wtU]
 | x::a,b=>by rw[List.cons_append,wtU,wtU,qq6 s a b];omega
theorem qvo(s:List Pr):∀a,a.length≤wtU s a
 | []=>Nat.zero_le _
 | x::a=>by have:=qks (putY s x.1);have:=qvo s a;rw[List.length_cons,wtU];omega
theorem q3i{s:List Pr}:∀(l m:List Ty),(∀x∈l,putY s x=x)->wtU s (l.zip m)≤szYs l
 | [],m,_=>by simp[wtU]
 | x::l,[],_=>by simp[wtU]
 | x :: l, y :: m, h => by
   have:=q3i l m fun z hz=>h z (by simp[hz])
   rw[List.zip_cons_cons,wtU,szYs,h x (by simp)]
   omega
theorem q64{l m:List Ty}{x:Ty×Ty}(h:x∈l.zip m):x.1∈l∧x.2∈m:=⟨(List.of_mem_zip h).1,(List.of_mem_zip h).2⟩
theorem ql6:∀{l:List Ty} {t:Ty} {w:Int},t∈l->w∈varY t->w∈qc7 l
 | [],t,w,h,_=>by simp at h
 | x :: r, t, w, h, hw => by
   rw[qc7]
   rcases List.mem_cons.1 h with rfl | h
   ·simp[hw]
   ·simp[ql6 h hw]
theorem qrg{c:List UInt8}{x:Int}{l:List Ty}{w:Int}(h:w∈qc7 l):w∈varY (.mk c x l):=by rw[qgx];simp[h]
theorem qho{V:List Int}{s:List Pr}{a b:Ty}{st:List (Ty×Ty)}(h:Inv V s ((a,b)::st)){q:(List Pr×Int)×List (Ty×Ty)}(hq:StepU V s a b q)(he:q.1.2=0):
 Inv V q.1.1 (q.2++st)∧((q.1.1=s∧wtU s q.2<szY (putY s a)∧wtU s q.2≤4096)∨(q.2=[]∧q.1.1.length=s.length+1)):=by
 cases hq with
 | same hh=>exact⟨h.tail,.inl ⟨rfl,qks _,by simp[wtU]⟩⟩
 | bind v t hp ht hv hn hV hf ho he' =>
   obtain⟨h1,h2⟩:=qbh3 h.tail ht hv hn hV hf ho he'
   exact⟨h1,.inr ⟨rfl,h2⟩⟩
 | args c x y l m hA hB hc hl h1 h2 =>
   have ha:=qbi (h.leg (a,b) (by simp)).1
   have hb:=qbi (h.leg (a,b) (by simp)).2
   have hlf:∀z∈l,putY s z=z:=fun z hz=>qx1 (qbi (ql8 (t:=.mk c x l) h1 hz)) fun w hw=>qii h.ok h.sep ha (by rw[hA];exact qrg (ql6 hz hw))
   have hw:=q3i l m hlf
   have hsz:szYs l<4096:=by
    have:=((qs _).1 h1).1
    rw[q6e] at this;omega
   refine⟨⟨h.ok,h.sep,h.keys,h.vars,fun z hz=>?_,fun z hz w hw=>?_⟩,.inl ⟨rfl,by rw[hA,q6e];show wtU s (l.zip m)<_;omega,by show wtU s (l.zip m)≤_;omega⟩⟩
   ·rcases List.mem_append.1 hz with hz | hz
    ·obtain⟨q1,q2⟩:=q64 hz
     exact⟨ql8 (t:=.mk c x l) h1 q1,ql8 (t:=.mk c y m) h2 q2⟩
    ·exact h.leg z (by simp[hz])
   ·rcases List.mem_append.1 hz with hz | hz
    ·obtain⟨q1,q2⟩:=q64 hz
     rcases hw with hw | hw
     ·exact qhy h ha (fun w hw=>h.stk (a,b) (by simp) w (.inl hw)) (by rw[hA];exact qrg (ql6 q1 hw))
     ·exact qhy h hb (fun w hw=>h.stk (a,b) (by simp) w (.inr hw)) (by rw[hB];exact qrg (ql6 q2 hw))
    ·exact h.stk z (by simp[hz]) w hw
 | limit=>cases he
 | heads=>cases he
 | occurs=>cases he
theorem qz0:∀(l m:List Int),l.Nodup->(∀x∈l,x∈m)->l.length≤m.length
 | [],m,_,_=>Nat.zero_le _
 | x :: l, m, hn, h => by
   rw[List.nodup_cons] at hn
   have hx:=h x (by simp)
   have:=qz0 l (m.erase x) hn.2 fun y hy=>(List.mem_erase_of_ne (by intro e;subst e;exact hn.1 hy)).2 (h y (by simp[hy]))
   rw[List.length_erase_of_mem hx] at this
   have:=List.length_pos_of_mem hx
   rw[List.length_cons];omega
theorem Inv.len{V:List Int}{s:List Pr}{st:List (Ty×Ty)}(h:Inv V s st):s.length≤V.length:=by
 have:=qz0 (s.map Pr.v) V (qvg h.ok.1) fun v hv=>by
  obtain⟨p,hp,rfl⟩:=List.mem_map.1 hv
  exact h.keys p hp
 rwa [List.length_map] at this
theorem q55{V:List Int}:∀(k m:Nat) (s:List Pr) (st:List (Ty×Ty)),Inv V s st->V.length-s.length≤k->wtU s st≤m->∃n r,slvU n s st=some r:=by
 intro k
 induction k with
 | zero =>
   intro m
   induction m with
   | zero =>
     intro s st h hk hm
     cases st with
     | nil=>exact⟨0,_,rfl⟩
     | cons x st=>have:=qks (putY s x.1);rw[wtU] at hm;omega
   | succ m ih =>
     intro s st h hk hm
     cases st with
     | nil=>exact⟨0,_,rfl⟩
     | cons x st =>
       obtain⟨a,b⟩:=x
       by_cases he:(stpU s a b).1.2=0
       case neg=>exact⟨1,_,by rw[slvU,if_neg he]⟩
       obtain⟨h1,h2⟩:=qho h (qhl h) he
       rcases h2 with ⟨e1,h2,_⟩ | ⟨e1,h2⟩
       ·rw[e1] at h1
        obtain⟨n,r,hr⟩:=ih s _ h1 hk (by rw[qq6];rw[wtU] at hm;dsimp only at hm;omega)
        exact⟨n+1,r,by rw[slvU,if_pos he];dsimp only;rw[e1];exact hr⟩
       ·have:=h1.len
        have:=h.len
        omega
 | succ k ihk =>
   intro m
   induction m with
   | zero =>
     intro s st h hk hm
     cases st with
     | nil=>exact⟨0,_,rfl⟩
     | cons x st=>have:=qks (putY s x.1);rw[wtU] at hm;omega
   | succ m ih =>
     intro s st h hk hm
     cases st with
     | nil=>exact⟨0,_,rfl⟩
     | cons x st =>
       obtain⟨a,b⟩:=x
       by_cases he:(stpU s a b).1.2=0
       case neg=>exact⟨1,_,by rw[slvU,if_neg he]⟩
       obtain⟨h1,h2⟩:=qho h (qhl h) he
       rcases h2 with ⟨e1,h2,_⟩ | ⟨e1,h2⟩
       ·rw[e1] at h1
        obtain⟨n,r,hr⟩:=ih s _ h1 hk (by rw[qq6];rw[wtU] at hm;dsimp only at hm;omega)
        exact⟨n+1,r,by rw[slvU,if_pos he];dsimp only;rw[e1];exact hr⟩
       ·obtain⟨n,r,hr⟩:=ihk _ _ _ h1 (by omega) (Nat.le_refl _)
        exact⟨n+1,r,by rw[slvU,if_pos he];exact hr⟩
/-! what is told makes them one -/
theorem qbu0{f:Int->Ty}{v:Int}{t:Ty}(h:f v=subF f t):abs f [⟨v,t⟩]:=fun x=>by
 by_cases hx:v=x
 ·rw[funR,q0z,if_pos hx,←hx,h];rfl
 ·rw[funR,q0z,if_neg hx,Option.getD_none,subF,if_pos rfl]
theorem qbjd{V:List Int}{f:Int->Ty}{s:List Pr}(hs:okS s){v:Int}{t:Ty}(ht:qh t=true)(hn:qm v s=none)(he:(behR s [⟨v,t⟩]).2=0)(h:abs f (behR s [⟨v,t⟩]).1):abs f s∧f v=subF f t:=by
 have hf:=qbed hs ht hn he
 have hv:f v=subF f t:=by
  have:=h v
  rw[hf v,hn] at this
  simp only[if_true] at this
  exact this.symm
 refine⟨fun x=>?_,hv⟩
 cases hl:qm x s with
 | none=>rw[qea hl,subF,if_pos rfl]
 | some u =>
   have:=h x
   rw[hf x,hl] at this
   simp only at this
   rw[funR,hl,Option.getD_some,←qv3 (qbu0 hv) (qbi (qyu hs hl))]
   exact this
theorem qbja{s:List Pr}(hs:okS s)(h:sep s):abs (funR s) s:=fun v=>by
 cases hl:qm v s with
 | none=>rw[qea hl,subF,if_pos rfl,qea hl]
 | some u =>
   have hu:funR s v=u:=by rw[funR,hl];rfl
   rw[hu]
   obtain⟨p,hp,rfl,rfl⟩:=qcg hl
   exact qxe _ _ (qbi (hs.2 p hp)) fun w hw=>qea (h p hp w hw)
theorem q8x(f:Int->Ty)(v:Int):subF f (.mk [] v [])=f v:=by rw[subF,if_pos rfl]
theorem qxv{f:Int->Ty}:∀(l m:List Ty),l.length=m.length->((∀x∈l.zip m,subF f x.1=subF f x.2)↔qec f l=qec f m)
 | [],[],_=>by simp[qec]
 | [],y::m,h=>by simp at h
 | x::l,[],h=>by simp at h
 | x :: l, y :: m, h => by
   rw[qec,qec,List.cons.injEq,←qxv l m (by simpa using h),List.zip_cons_cons]
   simp only[List.mem_cons,forall_eq_or_imp]
theorem q8l(f:Int->Ty){t:Ty}(h:t.con≠[]):subF f t=.mk t.con t.var (qec f t.args):=by
 cases t with
 | mk c v l =>
   have h':c≠[]:=h
   rw[subF,if_neg h'];rfl
theorem qhp{V:List Int}:∀(n:Nat) (s:List Pr) (st:List (Ty×Ty)) (r:List Pr×Int),Inv V s st->slvU n s st=some r->r.2=0 →
 Inv V r.1 []∧abs (funR r.1) s∧∀x∈st,subF (funR r.1) x.1=subF (funR r.1) x.2
 | n, s, [], r, h, hr, he => by
   rw[qgc] at hr
   simp only[Option.some.injEq] at hr
   subst hr
   exact⟨h,qbja h.ok h.sep,fun x hx=>by simp at hx⟩
 | 0,s,x::st,r,h,hr,he=>by simp[slvU] at hr
 | n + 1, s, (a, b) :: st, r, h, hr, he => by
   rw[slvU] at hr
   dsimp only at hr
   by_cases e0:(stpU s a b).1.2=0
   case neg =>
    rw[if_neg e0] at hr
    simp only[Option.some.injEq] at hr
    subst hr
    exact absurd he e0
   rw[if_pos e0] at hr
   have hc:=qhl h
   obtain⟨h1,_⟩:=qho h hc e0
   obtain⟨q1,q2,q3⟩:=qhp n _ _ r h1 hr he
   have hba:=qbi (h.leg (a,b) (by simp)).1
   have hbb:=qbi (h.leg (a,b) (by simp)).2
   generalize stpU s a b=q at hc e0 h1 q2 q3 hr
   have fin:abs (funR r.1) s->subF (funR r.1) (putY s a)=subF (funR r.1) (putY s b)->(∀x∈st,subF (funR r.1) x.1=subF (funR r.1) x.2)->Inv V r.1 []∧abs (funR r.1) s∧∀x∈(a,b)::st,subF (funR r.1) x.1=subF (funR r.1) x.2:=fun k1 k2 k3=>by
    refine⟨q1,k1,fun x hx=>?_⟩
    rcases List.mem_cons.1 hx with rfl | hx
    ·rwa [qv3 k1 hba,qv3 k1 hbb] at k2
    ·exact k3 x hx
   cases hc with
   | same hh=>exact fin q2 (by rw[hh]) fun x hx=>q3 x (by simp[hx])
   | bind v t hp ht hv hn hV hf ho he' =>
     obtain⟨k1,k2⟩:=qbjd (V:=V) h.ok ht hn he' q2
     refine fin k1 ?_ fun x hx=>q3 x (by simpa using hx)
     rcases hp with ⟨p1,p2⟩ | ⟨p1,p2⟩
     ·rw[p1,p2,q8x,k2]
     ·rw[p1,p2,q8x,k2]
   | args c x y l m hA hB hc' hl g1 g2 =>
     refine fin q2 ?_ fun x hx=>q3 x (by simp[hx])
     have hx0:=qy3 ((qs _).1 g1).2.2 hc'
     have hy0:=qy3 ((qs _).1 g2).2.2 hc'
     rw[hA,hB,q8l _ (t:=.mk c x l) hc',q8l _ (t:=.mk c y m) hc']
     refine ty_eq.2 ⟨⟨rfl,hx0.trans hy0.symm⟩,?_⟩
     exact(qxv l m hl).1 fun z hz=>q3 z (by simp[hz])
   | limit=>cases e0
   | heads=>cases e0
   | occurs=>cases e0
/-! how much may lie on the stack -/
def Bd(k:Nat)(s:List Pr)(st:List (Ty×Ty)):Prop:=∃P O,st=P++O∧wtU s P≤4096∧O.length≤k+4097*s.length
theorem qbz7{V:List Int}{k:Nat}{s:List Pr}{a b:Ty}{st:List (Ty×Ty)}(h:Inv V s ((a,b)::st))(hb:Bd k s ((a,b)::st)){q:(List Pr×Int)×List (Ty×Ty)}(hq:StepU V s a b q)(he:q.1.2=0):Bd k q.1.1 (q.2++st):=by
 obtain⟨P,O,e,h1,h2⟩:=hb
 obtain⟨_,h3⟩:=qho h hq he
 cases P with
 | nil =>
   rw[List.nil_append] at e
   subst e
   rw[List.length_cons] at h2
   rcases h3 with ⟨e1,_,h3⟩ | ⟨e1,h3⟩
   ·rw[e1];exact⟨q.2,st,rfl,h3,by omega⟩
   ·rw[e1];exact⟨[],st,rfl,by simp[wtU],by rw[h3];omega⟩
 | cons x P =>
   rw[List.cons_append,List.cons.injEq] at e
   obtain⟨rfl,rfl⟩:=e
   rw[wtU] at h1
   rcases h3 with ⟨e1,h4,h3⟩ | ⟨e1,h3⟩
   ·rw[e1];exact⟨q.2++P,O,by rw[List.append_assoc],by rw[qq6];dsimp only at h1;omega,h2⟩
   ·have:=qvo s P
    rw[e1];exact⟨[],P++O,rfl,by simp[wtU],by rw[h3,List.length_append];omega⟩
theorem qclv{k:Nat}{s:List Pr}{st:List (Ty×Ty)}(h:Bd k s st):st.length≤4096+k+4097*s.length:=by
 obtain⟨P,O,rfl,h1,h2⟩:=h
 have:=qvo s P
 rw[List.length_append];omega
set_option maxRecDepth 4000

def hasN(v:Int)(t:Ty):Bool:=decide (t.con=[])&&decide (t.var=v)
def q0u(v:Int)(u:Unit)(t:Ty)(_:Int):Unit×Bool:=(u,!hasN v t)
theorem has1(v:Int)(t:Ty)(k:Int):VM Tryz.prog 243 (.blk [.int .i64 v]) (.blk [.int .i64 v]) [encY t,.int .i64 k,.ptr 0 0] (.bool (!hasN v t)):=by
 refine qe c0el 1 (by simp) (by simp) ?_
 repeat'(first|refine vs_ ?_|((first|refine vr_ ?_|(refine cs_ ?_ ?_<;>intro hc)|refine cj_ ?_)<;>try refine ev_ ?_)|with_reducible exact ti_)
 all_goals simp_all[hasN]
mutual
theorem qcfu(v:Int):∀(t:Ty) (k:Int),(qdi (q0u v) t () k).2=!decide (v∈varY t)
 | .mk c x l, k => by
   rw[qdi,varY]
   by_cases hc:c=[]
   ·by_cases hx:x=v
    ·rw[if_neg (by simp[q0u,hasN,Ty.con,Ty.var,hc,hx])];simp[hc,hx]
    ·rw[if_pos (by simp[q0u,hasN,Ty.con,Ty.var,hc,hx]),q5y v l];simp[hc,Ne.symm hx]
   ·rw[if_pos (by simp[q0u,hasN,Ty.con,hc]),q5y v l];simp[hc]
theorem q5y(v:Int):∀(l:List Ty) (u:Unit) (k:Int),(qcl (q0u v) l u k).2=!decide (v∈qc7 l)
 | [],u,k=>by rw[qcl,qc7];simp
 | x :: r, u, k => by
   have h1:=qcfu v x k
   rw[qcl,qc7]
   cases u
   by_cases hv:v∈varY x
   ·rw[if_neg (by rw[h1];simp[hv])];simp[hv]
   ·rw[if_pos (by rw[h1];simp[hv]),q5y v r];simp[hv]
end
theorem qsh(t:Ty)(v:Int):qj Tryz.prog 233 [encY t,.int .i64 v] (.bool (decide (v∈varY t))):=by
 refine qd c0em (by simp) (by simp only[go_sem]) rfl fun hw=>?_
 have hwalk:=qo8 (S:=Unit) (st:=fun _=>.blk [.int .i64 v]) (step:=q0u v) (f:=243) (ok:=fun _ _=>True) (fun _=>rfl) (fun _ _ _ _ _=>trivial) (fun _ _ _=>trivial) (fun u t k _=>has1 v t k) t () 1 trivial
 rw[qcfu] at hwalk
 repeat'(first|refine vs_ ?_|((first|refine vr_ ?_|refine qca 1 hwalk ?_|(refine cs_ ?_ ?_<;>intro hc)|refine cj_ ?_)<;>try refine ev_ ?_)|with_reducible exact ti_)
 rw[Bool.not_not]

/-! functions' types -/
section
variable {S:Type} {l:List Ty} {m i p:Nat} {hs:S->List Ent} {f:Ty->S->S} (hlen:∀s,(hs s).length=m) (hbd:∀s,(hs s).all (Ent.bd m)=true) (hi:i<m) (hpm:p<m) (hp:∀s,ent (hs s) p=.blk [.sl 3 (qg l)])
 (app:∀s k n (Q:List Ent->VO->Prop),Q (hs (f n s)) (.val (.bool true))->VApp Tryz.prog (hs s) (.opq i) [.int .i64 k,encY n] Q)
include hlen hbd hi hpm hp app
end
/-! what is split -/

theorem qbjs{s:List Pr}(h:okS s){t:Ty}(he:(appR s t).2=0):szY (appR s t).1≤20000∧dpY (appR s t).1≤300:=by
 obtain⟨_,q2,q3⟩:=qb1 h he
 rw[q3]
 have:=(qs _).1 q2
 omega
set_option maxRecDepth 4000

set_option maxRecDepth 4000

end Go.Proofs.YtkenggenkmfopaaGreat
