/- Texts of this proof, joined. -/
import Derived.Test.YtkenggenkmfopaaGreatFbq
import Derived.Test.YtkenggenkmfopaaGreatFbm
set_option linter.unusedVariables false
set_option linter.unusedSimpArgs false

/- the document's state: a term with all that is known, as data -/
namespace Go.Proofs.YtkenggenkmfopaaGreat
open Go Go.RowKit Go.V

mutual
theorem qo1:∀(t:Ty),szY t≤1000000000->qdf t=szY t
 | .mk c v l, h => by
   rw[szY] at h
   rw[qdf,szY,qm4 l 1 (by omega) (by omega)]
   omega
theorem qm4:∀(l:List Ty) (a:Int),1≤a->a+szYs l≤1000000001->qeu a l=a+szYs l
 | [],a,_,_=>by rw[qeu,szYs];omega
 | x :: r, a, h0, h => by
   rw[szYs] at h
   rw[qeu,qo1 x (by omega),qo (by omega) (by omega),qm4 r _ (by omega) (by omega),szYs]
   omega
end
theorem qbyf{s:List Pr}(h:okS s):∀t,szY (putY s t)≤szY t*4096:=by
 refine Ty.ind fun t ih=>?_
 rw[qxx]
 have hp:=qkg t
 split
 ·cases hl:qm t.var s with
  | none=>show szY t≤_;omega
  | some u =>
    obtain⟨p,hm,_,rfl⟩:=qcq hl
    have:=((qu _).1 (h.2 p hm)).1
    show szY p.ty≤_
    omega
 ·rw[szY,qdr t]
  have:∀l:List Ty,(∀x∈l,szY (putY s x)≤szY x*4096)->szYs (l.map (putY s))≤szYs l*4096:=fun l=>by
   induction l with
   | nil=>intro _;rw[List.map_nil,szYs];omega
   | cons x r ih2=>intro hx;rw[List.map_cons,szYs,szYs];have:=hx x (by simp);have:=ih2 fun y hy=>hx y (by simp[hy]);omega
  have:=this _ ih
  omega
theorem qxt{s:List Pr}(h:okS s){t:Ty}(ht:szY t≤20000):szY (putT (lsV s) (lsT s) t)≤1000000000:=by
 rw[qzd]
 have:=qbyf h t
 omega
def qhz(R:RS)(x:Ty):Ty:=if(typR R x).2=true then(typR R x).1 else x
theorem q6n{R:RS}(h:okS R.known){x:Ty}(hx:szY x≤20000):szY (qhz R x)≤20000:=by
 unfold qhz typR
 by_cases c1:lgR x=true
 ·rw[if_pos c1]
  by_cases c2:lgR (putT (lsV R.known) (lsT R.known) x)=true
  ·rw[if_pos c2,if_pos rfl]
   have hb:=qxt h hx
   unfold lgR at c2
   rw[Bool.and_eq_true,Bool.and_eq_true,decide_eq_true_eq,qo1 _ hb] at c2
   show szY (putT (lsV R.known) (lsT R.known) x)≤20000
   omega
  ·rw[if_neg c2,if_neg (by simp)];exact hx
 ·rw[if_neg c1,if_neg (by simp)];exact hx
def whlK(f:Tm->Option Tm):List Tm->Option (List Tm)
 | []=>some []
 | x :: r => match f x with
   | none=>none
   | some p => match whlK f r with
     | none=>none
     | some q=>some (p::q)
def whlF(R:RS):Nat->Tm->Option Tm
 | 0,_=>none
 | n + 1, t => if t.kind = 14 then (match filG R.fills t.num with
     | some u=>whlF R n u
     | none=>some t) else match whlK (whlF R n) t.kids with
   | none=>none
   | some ks=>some (.mk t.kind t.num t.name t.vars (t.types.map (qhz R)) ks)
theorem qx2{f:Tm->Option Tm}:∀{l q:List Tm},whlK f l=some q->q.length=l.length
 | [],q,h=>by rw[whlK] at h;simp only[Option.some.injEq] at h;subst h;rfl
 | x :: r, q, h => by
   rw[whlK] at h
   cases hf:f x with
   | none=>rw[hf] at h;cases h
   | some p =>
     rw[hf] at h
     dsimp only at h
     cases hr:whlK f r with
     | none=>rw[hr] at h;cases h
     | some z =>
       rw[hr] at h
       simp only[Option.some.injEq] at h
       subst h
       rw[List.length_cons,List.length_cons,qx2 hr]
theorem qzh{f:Tm->Option Tm}:∀{l q:List Tm},whlK f l=some q->∀y∈q,∃x∈l,f x=some y
 | [],q,h,y,hy=>by rw[whlK] at h;simp only[Option.some.injEq] at h;subst h;cases hy
 | x :: r, q, h, y, hy => by
   rw[whlK] at h
   cases hf:f x with
   | none=>rw[hf] at h;cases h
   | some p =>
     rw[hf] at h
     dsimp only at h
     cases hr:whlK f r with
     | none=>rw[hr] at h;cases h
     | some z =>
       rw[hr] at h
       simp only[Option.some.injEq] at h
       subst h
       rcases List.mem_cons.1 hy with rfl | hy
       ·exact⟨x,by simp,hf⟩
       ·obtain⟨w,h1,h2⟩:=qzh hr y hy
        exact⟨w,by simp[h1],h2⟩
theorem qtp{f g:Tm->Option Tm}:∀(l:List Tm) (q:List Tm),(∀x∈l,∀r,f x=some r->g x=some r)->whlK f l=some q->whlK g l=some q
 | [],q,_,h=>h
 | x :: r, q, hfg, h => by
   rw[whlK] at h ⊢
   cases hf:f x with
   | none=>rw[hf] at h;cases h
   | some p =>
     rw[hf] at h
     rw[hfg x (by simp) p hf]
     dsimp only at h ⊢
     cases hr:whlK f r with
     | none=>rw[hr] at h;cases h
     | some z =>
       rw[hr] at h
       rw[qtp r z (fun y hy=>hfg y (by simp[hy])) hr]
       exact h
theorem qmz{f:Tm->Option Tm}:∀(l:List Tm),(∀x∈l,∃r,f x=some r)->∃q,whlK f l=some q
 | [],_=>⟨_,rfl⟩
 | x :: r, h => by
   obtain⟨p,hp⟩:=h x (by simp)
   obtain⟨q,hq⟩:=qmz r (fun y hy=>h y (by simp[hy]))
   exact⟨p::q,by rw[whlK,hp];dsimp only;rw[hq]⟩
theorem q5z{R:RS}:∀(n:Nat) (t r:Tm),whlF R n t=some r->whlF R (n+1) t=some r:=by
 intro n
 induction n with
 | zero=>intro t r h;rw[whlF] at h;cases h
 | succ n ih =>
   intro t r h
   rw[whlF] at h
   rw[whlF]
   split at h
   ·rename_i hk
    rw[if_pos hk]
    cases hg:filG R.fills t.num with
    | none=>rw[hg] at h;exact h
    | some u=>rw[hg] at h;exact ih _ _ h
   ·rename_i hk
    rw[if_neg hk]
    cases hq:whlK (whlF R n) t.kids with
    | none=>rw[hq] at h;cases h
    | some q=>rw[hq] at h;rw[qtp _ q (fun x _ r hx=>ih x r hx) hq];exact h
theorem q5g{R:RS}{n m:Nat}(h:n≤m){t r:Tm}(hr:whlF R n t=some r):whlF R m t=some r:=by
 induction h with
 | refl=>exact hr
 | step _ ih=>exact q5z _ _ _ ih
theorem qjk:∀{l:List (Int×Tm)} {k:Int} {u:Tm},filG l k=some u->(k,u)∈l
 | [],k,u,h=>by rw[filG] at h;cases h
 | p :: r, k, u, h => by
   rw[filG] at h
   split at h
   ·rename_i hp
    simp only[Option.some.injEq] at h
    subst h hp
    exact List.mem_cons_self
   ·exact List.mem_cons_of_mem _ (qjk h)
def qp1(F:List (Int×Tm)):Prop:=∀p∈F,(szTm p.2≤3000∧smK p.2)∧∀w∈holT p.2,p.1<w
theorem qbao{R:RS}(hF:qp1 R.fills):∀(k:Nat) (h:Int),cntF R.fills h≤k->∀t,(∀w∈holT t,h≤w)->∃n r,whlF R n t=some r:=by
 intro k
 induction k with
 | zero =>
   intro h hc
   refine Tm.ind fun t ih hw=>?_
   by_cases hk:t.kind=14
   ·cases hl:filG R.fills t.num with
    | none=>exact⟨1,t,by rw[whlF,if_pos hk,hl]⟩
    | some u =>
      have:=qqh (qjk hl) (hw t.num (by rw[qe1,if_pos hk];simp))
      omega
   ·obtain⟨n,hn⟩:=qgp (p:=fun n x=>∃r,whlF R n x=some r) (fun n m t hnm hp=>by obtain⟨r,hr⟩:=hp;exact⟨r,q5g hnm hr⟩) t.kids fun x hx=>ih x hx fun w hwx=>hw w (by rw[qe1,if_neg hk];exact qjo hx hwx)
    obtain⟨q,hq⟩:=qmz t.kids hn
    exact⟨n+1,_,by rw[whlF,if_neg hk,hq]⟩
 | succ k ihk =>
   intro h hc
   refine Tm.ind fun t ih hw=>?_
   by_cases hk:t.kind=14
   ·cases hl:filG R.fills t.num with
    | none=>exact⟨1,t,by rw[whlF,if_pos hk,hl]⟩
    | some u =>
      have hm:=qjk hl
      have hlt:=qqh hm (hw t.num (by rw[qe1,if_pos hk];simp))
      obtain⟨_,f3⟩:=hF _ hm
      obtain⟨n,r,hn⟩:=ihk (t.num+1) (by omega) u fun w hw=>by have:=f3 w hw;dsimp only at this;omega
      exact⟨n+1,r,by rw[whlF,if_pos hk,hl];exact hn⟩
   ·obtain⟨n,hn⟩:=qgp (p:=fun n x=>∃r,whlF R n x=some r) (fun n m t hnm hp=>by obtain⟨r,hr⟩:=hp;exact⟨r,q5g hnm hr⟩) t.kids fun x hx=>ih x hx fun w hwx=>hw w (by rw[qe1,if_neg hk];exact qjo hx hwx)
    obtain⟨q,hq⟩:=qmz t.kids hn
    exact⟨n+1,_,by rw[whlF,if_neg hk,hq]⟩
theorem qbzo{R:RS}(hF:qp1 R.fills)(t:Tm):∃n r,whlF R n t=some r:=qbao hF _ _ (Nat.le_refl _) t (qvy t 0).2
theorem qb8e{R:RS}(ho:okS R.known)(hF:qp1 R.fills):∀(n:Nat) (t r:Tm),szTm t≤3000->smK t->whlF R n t=some r->smT r:=by
 intro n
 induction n with
 | zero=>intro t r _ _ h;rw[whlF] at h;cases h
 | succ n ih =>
   intro t r hz hs h
   rw[whlF] at h
   split at h
   ·cases hl:filG R.fills t.num with
    | none=>rw[hl] at h;simp only[Option.some.injEq] at h;subst h;exact qmg t (by omega) hs
    | some u =>
      rw[hl] at h
      obtain⟨⟨f1,f2⟩,_⟩:=hF _ (qjk hl)
      exact ih u r f1 f2 h
   ·cases hq:whlK (whlF R n) t.kids with
    | none=>rw[hq] at h;cases h
    | some q =>
      rw[hq] at h
      simp only[Option.some.injEq] at h
      subst h
      obtain⟨s1,s2,s3⟩:=(qse t).1 hs
      rw[qia] at hz
      have hkl:=qjn t.kids
      have hql:=qx2 hq
      refine(qh8 _).2 ⟨fun x hx=>?_,?_,?_,q7g fun y hy=>?_⟩
      ·obtain⟨z,hz,rfl⟩:=List.mem_map.1 (show x∈t.types.map (qhz R) from hx)
       exact Nat.le_trans (q6n ho (s1 z hz)) (by decide)
      ·show(t.types.map (qhz R)).length≤_
       rw[List.length_map];omega
      ·show q.length≤_
       omega
      ·obtain⟨x,h1,h2⟩:=qzh hq y hy
       exact ih x y (by have:=qmo h1;omega) (qqp s3 x h1) h2

structure J37(V:List Int)(n:Nat)(S:SS)(R:RS):Prop where
 inv:Inv V S.known []
 kn:R.known=S.known
 er:R.err=S.err
 wt:S.waits.length≤n
 wtR:R.waits.length≤n
 fx:0≤R.fixed∧R.fixed≤n
 nm:0≤R.names∧R.names≤n
 fl:qkb S.fills
 flR:qp1 R.fills
 fln:R.fills.length≤n
theorem J37.up{V:List Int}{n:Nat}{S:SS}{R:RS}(h:J37 V n S R):J37 V (n+1) S R :=
 ⟨h.inv,h.kn,h.er,by have:=h.wt;omega,by have:=h.wtR;omega,by have:=h.fx;omega,by have:=h.nm;omega,h.fl,h.flR,by have:=h.fln;omega⟩
structure Nxt(S S':SS):Prop where
 grow:∀x y,bare x->bare y->putY S.known x=putY S.known y->putY S'.known x=putY S'.known y
 fail:S.err≠0->S'.known=S.known∧S'.err=S.err∧S'.pos=S.pos
theorem Nxt.same{S S':SS}(h:S'.known=S.known)(h2:S.err≠0->S'.err=S.err∧S'.pos=S.pos):Nxt S S':=⟨fun x y _ _ hxy=>by rw[h];exact hxy,fun he=>⟨h,h2 he⟩⟩

set_option maxRecDepth 4000

theorem qf0(q:List Pr×Int):rowA q=.tup [.sl 4 (qz q.1),.int .i64 q.2]:=rfl
theorem qpn{s:List Pr}(hs:okS s)(hl:s.length≤40000)(v:Int){t:Ty}(ht:qi t=true):qj Tryz.prog 165 [.sl 4 (qz s),.int .i64 v,encY t] (rowA (bndU s v t)):=by
 refine qd c0fy (by simp) (by simp only[AV.bds,AV.bd,qcd,qx,Bool.and_true]) (qkz _ _) fun hw=>?_
 have z:=(qu _).1 ht
 have hH:=q23 t v (by omega)
 have hT:=qpw hs (qey (v:=v) ht) hl (by simp)
 have hT:qj Tryz.prog 74 [.sl 4 (qz s),.sl 4 [encR ⟨v,t⟩]] (rowA (behR s [⟨v,t⟩])):=hT
 by_cases hn:t.con=[]∧t.var=v
 ·rw[bndU,if_pos hn]
  repeat'(first|refine vs_ ?_|(refine vr_ ?_<;>try simp only[hn.1,hn.2,go_sem,↓reduceIte])|((first|(refine cs_ ?_ ?_<;>intro hc)|refine cj_ ?_)<;>try refine ev_ ?_)|with_reducible exact ti_)
  all_goals rfl
 by_cases hv:v∈varY t
 ·rw[decide_eq_true hv] at hH
  rw[bndU,if_neg hn,if_pos hv]
  repeat'(first|refine vs_ ?_|((first|refine vr_ ?_|refine qa hH fun _=>?_|(refine cs_ ?_ ?_<;>intro hc)|refine cj_ ?_)<;>try refine ev_ ?_)|with_reducible exact ti_)
  all_goals first | exact absurd ⟨by assumption,by assumption⟩ hn | rfl
 ·rw[decide_eq_false hv] at hH
  rw[bndU,if_neg hn,if_neg hv]
  obtain⟨q,hq⟩:∃q,behR s [⟨v,t⟩]=q:=⟨_,rfl⟩
  rw[hq,qf0] at hT
  rw[hq]
  repeat'(first|refine vs_ ?_|((first|refine vr_ ?_|refine qa hH fun _=>?_|refine qa hT fun _=>?_|(refine cs_ ?_ ?_<;>intro hc)|refine cj_ ?_)<;>try refine ev_ ?_)|with_reducible exact ti_)
  all_goals first | exact absurd ⟨by assumption,by assumption⟩ hn | rfl
theorem qbiq{V:List Int}{s r:List Pr}{x st:List (Ty×Ty)}(h:Inv V s (x++st))(h':Inv V r []):Inv V r st :=
 ⟨h'.ok,h'.sep,h'.keys,h'.vars,fun y hy=>h.leg y (by simp[hy]),fun y hy=>h.stk y (by simp[hy])⟩
theorem q3w{V:List Int}{s:List Pr}{x:Ty×Ty}{st:List (Ty×Ty)}(h:Inv V s (x::st)):Inv V s [x] :=
 ⟨h.ok,h.sep,h.keys,h.vars,fun y hy=>h.leg y (by simp at hy;simp[hy]),fun y hy=>h.stk y (by simp at hy;simp[hy])⟩
theorem q51{V:List Int}{n:Nat}{s:List Pr}{x:Ty×Ty}{st:List (Ty×Ty)}{q:List Pr×Int}(h:Inv V s (x::st))(hq:slvU n s (x::st)=some q):
 ∃m r,m≤n∧slvU m s [x]=some r∧Inv V s [x]∧(r.2≠0->q=r∧r.1=[])∧(r.2=0->∃k,k≤n∧slvU k r.1 st=some q∧Inv V r.1 st):=by
 obtain⟨m,r,h1,h2,h3,h4⟩:=qkm n s [x] st q hq
 refine⟨m,r,h1,h2,q3w h,h3,fun hr=>?_⟩
 obtain⟨k,h5,h6⟩:=h4 hr
 obtain⟨h7,_⟩:=qhj m s [x] r (q3w h) h2 hr
 exact⟨k,h5,h6,qbiq (x:=[x]) h h7⟩
def onSt(A B:Ty)(x:Nat×List Pr×Nat):AF×List Ent:=(⟨[(0,.sl 4 (qz x.2.1)),(4,.ptr 0 0),(5,.ptr 1 0),(9,.int .i64 x.1)],[]⟩,[.blk (yc A),.blk (yc B)])
set_option maxHeartbeats 2000000 in
theorem qbhj{V:List Int}(hV:V.length≤40000):∀(n:Nat) (s:List Pr) (a b:Ty) (q:List Pr×Int),Inv V s [(a,b)]->slvU n s [(a,b)]=some q->qj Tryz.prog 115 [.sl 4 (qz s),encY a,encY b] (rowA q):=by
 intro n
 induction n using Nat.strongRecOn with
 | ind n ih =>
 intro s a b q hI hq
 obtain⟨m,rfl⟩:∃m,n=m+1:=by
  cases n with
  | zero=>simp[slvU] at hq
  | succ m=>exact⟨m,rfl⟩
 obtain⟨ha,hb⟩:=hI.leg (a,b) (by simp)
 dsimp only at ha hb
 have hs:=hI.ok
 have hsl:=hI.len
 have z1:=(qu _).1 ha
 have z2:=(qu _).1 hb
 have fA:=qe3 hs (t:=a) (by omega) (by omega)
 have fB:=qe3 hs (t:=b) (by omega) (by omega)
 have hst:=qg9 hI
 have hnx:=fun h0=>(qhm hI hst h0).1
 rw[slvU] at hq
 dsimp only at hq
 refine qd c0fz (by simp) (by simp only[AV.bds,AV.bd,qcd,qx,Bool.and_true]) (qkz _ _) fun hw=>?_
 rw[stpU] at hq hnx
 by_cases e1:(appR s a).2=0
 case neg =>
  rw[if_neg e1,if_neg e1] at hq
  simp only[Option.some.injEq] at hq
  subst hq
  have hT:typA (appR s a)=.tup [encY (appR s a).1,.int .i64 (appR s a).2]:=rfl
  rw[hT] at fA
  have hd:decide ((appR s a).2=0)=false:=decide_eq_false e1
  repeat'(first|refine vs_ ?_|(refine vr_ ?_<;>try simp only[hd,decide_false,go_sem,↓reduceIte])|((first|(refine cs_ ?_ ?_<;>intro hc)|refine cj_ ?_|refine qa fA fun _=>?_|refine qc fA ?_)<;>try refine ev_ ?_)|with_reducible exact ti_)
  all_goals rfl
 rw[if_pos e1] at hq hnx
 have hA:appR s a=((appR s a).1,0):=Prod.ext rfl e1
 by_cases e2:(appR s b).2=0
 case neg =>
  rw[if_neg e2,if_neg e2] at hq
  simp only[Option.some.injEq] at hq
  subst hq
  have hT:typA (appR s a)=.tup [encY (appR s a).1,.int .i64 0]:=by rw[hA];rfl
  rw[hT] at fA
  have hT:typA (appR s b)=.tup [encY (appR s b).1,.int .i64 (appR s b).2]:=rfl
  rw[hT] at fB
  have hd:decide ((appR s b).2=0)=false:=decide_eq_false e2
  repeat'(first|refine vs_ ?_|(refine vr_ ?_<;>try simp only[hd,decide_false,go_sem,↓reduceIte])|((first|(refine cs_ ?_ ?_<;>intro hc)|refine cj_ ?_|refine qa fA fun _=>?_|refine qa fB fun _=>?_|refine qc fA ?_|refine qc fB ?_)<;>try refine ev_ ?_)|with_reducible exact ti_)
  all_goals rfl
 rw[if_pos e2] at hq hnx
 have hB:appR s b=((appR s b).1,0):=Prod.ext rfl e2
 have hT:typA (appR s a)=.tup [encY (appR s a).1,.int .i64 0]:=by rw[hA];rfl
 rw[hT] at fA
 have hT:typA (appR s b)=.tup [encY (appR s b).1,.int .i64 0]:=by rw[hB];rfl
 rw[hT] at fB
 have hAl:qi (appR s a).1=true:=by obtain⟨_,h1,h2⟩:=qb0 hs e1;rw[h2];exact h1
 have hBl:qi (appR s b).1=true:=by obtain⟨_,h1,h2⟩:=qb0 hs e2;rw[h2];exact h1
 generalize (appR s a).1=A at fA hAl hq hnx
 generalize (appR s b).1=B at fB hBl hq hnx
 clear hA hB hT e1 e2 hst
 rw[hdU] at hq hnx
 by_cases c1:A.con=[]
 ·rw[if_pos c1] at hq
  have fb:=qpn hs (by omega) A.var hBl
  have hqe:q=if(bndU s A.var B).2=0 then((bndU s A.var B).1,0) else([],(bndU s A.var B).2):=by
   split at hq
   ·rename_i h0
    rw[List.append_nil,qgh] at hq
    dsimp only at h0
    rw[if_pos h0]
    simpa using hq.symm
   ·rename_i h0
    dsimp only at h0
    rw[if_neg h0]
    simpa using hq.symm
  have hbq:q=bndU s A.var B:=by
   rw[hqe]
   cases qi1 hs A.var hBl with
   | same h1 h2 h=>rw[h];rfl
   | no h h' hn=>rw[if_neg h];exact Prod.ext h'.symm rfl
   | new r h hn hv h'=>rw[h'];rfl
  rw[←hbq,qf0] at fb
  repeat'(first|refine vs_ ?_|(refine vr_ ?_<;>try simp only[c1,go_sem,↓reduceIte])|((first|(refine cs_ ?_ ?_<;>intro hc)|refine cj_ ?_|refine qa fA fun _=>?_|refine qa fB fun _=>?_|refine qa fb fun _=>?_|refine qc fA ?_|refine qc fB ?_|refine qc fb ?_)<;>try refine ev_ ?_)|with_reducible exact ti_)
  all_goals rfl
 rw[if_neg c1] at hq hnx
 by_cases c2:B.con=[]
 ·rw[if_pos c2] at hq
  have fb:=qpn hs (by omega) B.var hAl
  have hqe:q=if(bndU s B.var A).2=0 then((bndU s B.var A).1,0) else([],(bndU s B.var A).2):=by
   split at hq
   ·rename_i h0
    rw[List.append_nil,qgh] at hq
    dsimp only at h0
    rw[if_pos h0]
    simpa using hq.symm
   ·rename_i h0
    dsimp only at h0
    rw[if_neg h0]
    simpa using hq.symm
  have hbq:q=bndU s B.var A:=by
   rw[hqe]
   cases qi1 hs B.var hAl with
   | same h1 h2 h=>rw[h];rfl
   | no h h' hn=>rw[if_neg h];exact Prod.ext h'.symm rfl
   | new r h hn hv h'=>rw[h'];rfl
  rw[←hbq,qf0] at fb
  repeat'(first|refine vs_ ?_|(refine vr_ ?_<;>try simp only[c1,c2,go_sem,↓reduceIte])|((first|(refine cs_ ?_ ?_<;>intro hc)|refine cj_ ?_|refine qa fA fun _=>?_|refine qa fB fun _=>?_|refine qa fb fun _=>?_|refine qc fA ?_|refine qc fB ?_|refine qc fb ?_)<;>try refine ev_ ?_)|with_reducible exact ti_)
  all_goals rfl
 rw[if_neg c2] at hq hnx
 by_cases c3:A.con=B.con∧A.args.length=B.args.length
 case neg =>
  rw[if_neg c3,if_neg (by decide)] at hq
  simp only[Option.some.injEq] at hq
  subst hq
  repeat'(first|refine vs_ ?_|(refine vr_ ?_<;>try simp only[c1,c2,go_sem,↓reduceIte])|((first|(refine cs_ ?_ ?_<;>intro hc)|refine cj_ ?_|refine qa fA fun _=>?_|refine qa fB fun _=>?_|refine qc fA ?_|refine qc fB ?_)<;>try refine ev_ ?_)|with_reducible exact ti_)
  ·rfl
  ·rfl
  ·exact absurd ⟨by assumption,by omega⟩ c3
 rw[if_pos c3] at hq hnx
 rw[if_pos rfl] at hq
 have hI0:=hnx rfl
 dsimp only at hq hI0
 rw[List.append_nil] at hq hI0
 obtain⟨c3,c4⟩:=c3
 have hzl:(A.args.zip B.args).length=A.args.length:=by rw[List.length_zip];omega
 have hal:=qen A.args
 have hsz:=((qu _).1 hAl).1
 rw[qdr] at hsz
 repeat'(first|refine vs_ ?_|(refine vr_ ?_<;>try simp only[c1,c2,go_sem,↓reduceIte])|((first|(refine cs_ ?_ ?_<;>intro hc)|refine cj_ ?_|refine qa fA fun _=>?_|refine qa fB fun _=>?_|refine qc fA ?_|refine qc fB ?_)<;>try refine ev_ ?_)|with_reducible exact ti_)
 all_goals try(exfalso;first | omega | contradiction)
 refine qk (S:=Nat×List Pr×Nat) (fun x=>x.1≤A.args.length∧x.2.2≤m∧slvU x.2.2 x.2.1 ((A.args.zip B.args).drop x.1)=some q∧Inv V x.2.1 ((A.args.zip B.args).drop x.1)) (onSt A B) (fun x=>A.args.length-x.1) ?_ ?_
 ·refine qg (0,s,m) [0,1] ⟨Nat.zero_le _,Nat.le_refl _,hq,hI0⟩ rfl (by simp) ?_ ?_ ?_<;>simp only[onSt]<;>(try refine ev_ ?_)<;>(try with_reducible exact ti_)<;>(try simp (disch:=omega) only[qb,and_true,true_and])
 ·rintro⟨i,r,k⟩ ⟨i1,i2,i3,i4⟩
  dsimp only at i1 i2 i3 i4
  unfold onSt
  dsimp only
  by_cases hlt:i<A.args.length
  ·have hg:=ql hlt
   have hg':=ql (l:=B.args) (i:=i) (by omega)
   rw[qckf (by omega),qzn c4 hlt] at i3 i4
   obtain⟨k1,r1,j1,j2,j3,j4,j5⟩:=q51 i4 i3
   have fo:=ih k1 (by omega) _ _ _ _ j3 j2
   rw[qf0] at fo
   by_cases hr:r1.2=0
   ·rw[hr] at fo
    obtain⟨k2,g1,g2,g3⟩:=j5 hr
    repeat'(first|refine vs_ ?_|(refine vr_ ?_<;>try simp (disch:=first|omega|(simp only[List.length_set,List.length_append,List.length_cons,List.length_nil];try omega)) only[hg,hg',qb,go_sem,↓reduceIte])|((first|simp (disch:=omega) only[hg]|simp (disch:=omega) only[hg']|(refine cs_ ?_ ?_<;>intro hc)|refine cj_ ?_|refine qa fo fun _=>?_|refine qc fo ?_)<;>try refine ev_ ?_)|with_reducible exact ti_)
    all_goals try(exfalso;first | omega | contradiction)
    refine qg (i+1,r1.1,k2) [0,1] ⟨⟨by dsimp only;omega,by dsimp only;omega,g2,g3⟩,by dsimp only;omega⟩ rfl (by simp) ?_ ?_ ?_<;>simp only[onSt]<;>(try refine ev_ ?_)<;>(try with_reducible exact ti_)<;>(try simp (disch:=omega) only[qb,and_true,true_and])
    rw[qo (by omega) (by omega),Int.natCast_add];rfl
   ·have hd:decide (r1.2=0)=false:=decide_eq_false hr
    obtain⟨hqr,hr1⟩:=j4 hr
    repeat'(first|refine vs_ ?_|(refine vr_ ?_<;>try simp (disch:=first|omega|(simp only[List.length_set,List.length_append,List.length_cons,List.length_nil];try omega)) only[hg,hg',qb,hd,decide_false,go_sem,↓reduceIte])|((first|simp (disch:=omega) only[hg]|simp (disch:=omega) only[hg']|(refine cs_ ?_ ?_<;>intro hc)|refine cj_ ?_|refine qa fo fun _=>?_|refine qc fo ?_)<;>try refine ev_ ?_)|with_reducible exact ti_)
    all_goals try(exfalso;first | omega | contradiction)
    rw[hqr,qf0,hr1];rfl
  ·rw[List.drop_of_length_le (by omega),qgh] at i3
   simp only[Option.some.injEq] at i3
   subst i3
   repeat'(first|refine vs_ ?_|((first|refine vr_ ?_|(refine cs_ ?_ ?_<;>intro hc)|refine cj_ ?_)<;>try refine ev_ ?_)|with_reducible exact ti_)
   all_goals try(exfalso;first | omega | contradiction)
   rfl
theorem qvz{a b:Ty}(h1:szY a≤20000)(h2:dpY a≤300)(h3:szY b≤20000)(h4:dpY b≤300){q:List Pr×Int}(h:UniQ a b q):qj Tryz.prog 73 [encY a,encY b] (rowA q):=by
 have L1:=qds h1 h2
 have L2:=qds h3 h4
 refine qd c0ga (by simp) (by simp only[go_sem]) (qkz _ _) fun hw=>?_
 by_cases hl:qi a=true∧qi b=true
 ·rw[UniQ,if_pos hl] at h
  obtain⟨n,hq⟩:=h
  rw[hl.1] at L1
  rw[hl.2] at L2
  have hO:=qbhj (by have:=qwv hl.1 hl.2;omega) n [] a b q (qml hl.1 hl.2) hq
  rw[qf0] at hO
  have hO:qj Tryz.prog 115 [.sl 4 [],encY a,encY b] _:=hO
  repeat'(first|refine vs_ ?_|((first|refine vr_ ?_|refine qa L1 fun _=>?_|refine qa L2 fun _=>?_|refine qa hO fun _=>?_|(refine cs_ ?_ ?_<;>intro hc)|refine cj_ ?_)<;>try refine ev_ ?_)|with_reducible exact ti_)
  all_goals rfl
 ·rw[UniQ,if_neg hl] at h
  subst h
  cases ha:qi a with
  | false =>
    rw[ha] at L1
    repeat'(first|refine vs_ ?_|((first|refine vr_ ?_|refine qa L1 fun _=>?_|(refine cs_ ?_ ?_<;>intro hc)|refine cj_ ?_)<;>try refine ev_ ?_)|with_reducible exact ti_)
    all_goals rfl
  | true =>
    have hb:qi b=false:=by
     cases hb:qi b with
     | false=>rfl
     | true=>exact absurd ⟨ha,hb⟩ hl
    rw[ha] at L1
    rw[hb] at L2
    repeat'(first|refine vs_ ?_|((first|refine vr_ ?_|refine qa L1 fun _=>?_|refine qa L2 fun _=>?_|(refine cs_ ?_ ?_<;>intro hc)|refine cj_ ?_)<;>try refine ev_ ?_)|with_reducible exact ti_)
    all_goals rfl
end Go.Proofs.YtkenggenkmfopaaGreat
