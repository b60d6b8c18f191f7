/- Texts of this proof, joined. -/
import Derived.Test.YtkenggenkmfopaaGreatSbm
import Derived.Test.YtkenggenkmfopaaGreatSbo
set_option linter.unusedVariables false
set_option linter.unusedSimpArgs false

/- the state: what is known stays known -/
namespace Go.Proofs.YtkenggenkmfopaaGreat
open Go Go.RowKit Go.V

theorem qxk{s:List Pr}(h:risR s){p:Pr}(hp:p∈s):qm p.v s=some p.ty:=by
 induction s with
 | nil=>cases hp
 | cons q r ih =>
   rw[qm]
   rcases List.mem_cons.1 hp with rfl | hp
   ·rw[if_pos rfl]
   ·rw[if_neg (by have:=h.1 p hp;omega)];exact ih h.2 hp
theorem qb4i{V W:List Int}{s u:List Pr}(h:Inv V s [])(hu:Inv W u [])(hW:∀w∈W,w∈V∧qm w s=none)(he:(behR s u).2=0):Inv V (behR s u).1 []:=by
 have hl:=qjo h.ok hu.ok he
 have hok:=qxl h.ok hu.ok
 have hfr:∀w,qm w s=none->qm w u=none->qm w (behR s u).1=none:=fun w h1 h2=>by rw[hl,h1];exact h2
 have hc:∀p∈(behR s u).1,(∃t,qm p.v s=some t∧p.ty=putY u t)∨(qm p.v s=none∧qm p.v u=some p.ty):=fun p hp=>by
  have h1:=qxk hok.1 hp
  rw[hl] at h1
  cases hs:qm p.v s with
  | some t=>rw[hs] at h1;exact .inl ⟨t,rfl,by simpa using h1.symm⟩
  | none=>rw[hs] at h1;exact .inr ⟨rfl,h1⟩
 have hv:∀p∈(behR s u).1,∀w,w∈varY p.ty->w∈V∧qm w s=none∧qm w u=none:=fun p hp w hw=>by
  rcases hc p hp with ⟨t,h1,h2⟩ | ⟨h1,h2⟩
  ·obtain⟨q,hq,_,rfl⟩:=qcg h1
   have hb:=qbi (h.ok.2 q hq)
   rw[h2] at hw
   have k1:=qii hu.ok hu.sep hb hw
   rw[qer u _ hb] at hw
   obtain⟨v,m1,m2⟩:=qjw _ _ hb w hw
   cases hlu:qm v u with
   | none=>rw[qea hlu,var1] at m2;simp at m2;subst m2;exact⟨h.vars q hq w m1,h.sep q hq w m1,k1⟩
   | some x =>
     rw[funR,hlu] at m2
     obtain⟨z,hz,_,rfl⟩:=qcg hlu
     have:=hW w (hu.vars z hz w m2)
     exact⟨this.1,this.2,k1⟩
  ·obtain⟨z,hz,z1,z2⟩:=qcg h2
   rw[←z2] at hw
   have:=hW w (hu.vars z hz w hw)
   exact⟨this.1,this.2,hu.sep z hz w hw⟩
 refine⟨hok,fun p hp w hw=>?_,fun p hp=>?_,fun p hp w hw=>(hv p hp w hw).1,fun x hx=>(by cases hx),fun x hx=>(by cases hx)⟩
 ·obtain⟨_,a,b⟩:=hv p hp w hw;exact hfr w a b
 ·rcases hc p hp with ⟨t,h1,_⟩ | ⟨h1,h2⟩
  ·obtain⟨q,hq,e,_⟩:=qcg h1;rw[←e];exact h.keys q hq
  ·obtain⟨q,hq,e,_⟩:=qcg h2;rw[←e];exact(hW _ (hu.keys q hq)).1
theorem qo3{V:List Int}{s:List Pr}{a b:Ty}{q:List Pr×Int}(h:Inv V s [])(ha:∀w,w∈varY a->w∈V)(hb:∀w,w∈varY b->w∈V)(hq:WitQ s a b q)(he:q.2=0):
 Inv V q.1 []∧(∀x y,bare x->bare y->putY s x=putY s y->putY q.1 x=putY q.1 y)∧qh a=true∧qh b=true∧putY q.1 a=putY q.1 b:=by
 unfold WitQ at hq
 by_cases h1:(appR s a).2=0
 case neg=>rw[if_neg h1] at hq;rw[hq] at he;exact absurd he h1
 rw[if_pos h1] at hq
 by_cases h2:(appR s b).2=0
 case neg=>rw[if_neg h2] at hq;rw[hq] at he;exact absurd he h2
 rw[if_pos h2] at hq
 obtain⟨u,hu,hq⟩:=hq
 by_cases h3:u.2=0
 case neg=>rw[if_neg h3] at hq;rw[hq] at he;exact absurd he h3
 rw[if_pos h3] at hq
 obtain⟨a1,a2,a3⟩:=qb1 h.ok h1
 obtain⟨b1,b2,b3⟩:=qb1 h.ok h2
 rw[a3,b3] at hu
 rw[UniQ,if_pos ⟨a2,b2⟩] at hu
 obtain⟨n,hu⟩:=hu
 obtain⟨i1,i2,i3⟩:=qhp n [] _ u (qn2 a2 b2) hu h3
 have i3:=i3 _ (List.mem_singleton.2 rfl)
 dsimp only at i3
 subst hq
 dsimp only at he ⊢
 have ab:=qbi a1
 have bb:=qbi b1
 have hpp:∀t,bare t->putY (behR s u.1).1 t=putY u.1 (putY s t):=fun t ht=>(qzt (qjo h.ok i1.ok he) t ht).symm
 refine⟨qb4i h i1 (fun w hw=>?_) he,fun x y hx hy hxy=>by rw[hpp x hx,hpp y hy,hxy],a1,b1,?_⟩
 ·rcases List.mem_append.1 hw with hw | hw
  ·exact⟨qhy h ab ha hw,qii h.ok h.sep ab hw⟩
  ·exact⟨qhy h bb hb hw,qii h.ok h.sep bb hw⟩
 ·rw[hpp a ab,hpp b bb,qer _ _ (qbi a2),qer _ _ (qbi b2)]
  exact i3
/-! both ways to put types in the place of variables -/
theorem qyr(v:Int):∀(s:List Pr) (k:Int),0≤k->(qm v s=none∧idxW v (lsV s) k<0)∨∃i,i<s.length∧idxW v (lsV s) k=k+i∧qm v s=some ((lsT s).getD i Y0)
 | [],k,h=>.inl ⟨rfl,by simp[lsV,idxW]⟩
 | p :: r, k, h => by
   have e1:lsV (p::r)=p.v::lsV r:=rfl
   have e2:lsT (p::r)=p.ty::lsT r:=rfl
   rw[e1,e2,idxW,qm]
   by_cases hv:v=p.v
   ·rw[if_pos hv,if_pos hv.symm]
    exact .inr ⟨0,by simp,by omega,rfl⟩
   ·rw[if_neg hv,if_neg (fun h=>hv h.symm)]
    rcases qyr v r (k+1) (by omega) with ⟨h1,h2⟩ | ⟨i,h1,h2,h3⟩
    ·exact .inl ⟨h1,h2⟩
    ·exact .inr ⟨i+1,by simp;omega,by rw[h2];omega,by rw[h3];rfl⟩
theorem qro(s:List Pr)(t:Ty):putY s t=if t.con=[] then(match qm t.var s with | some u=>u | none=>t) else .mk t.con t.var (t.args.map (putY s)):=by
 cases t;rw[putY,qgy];rfl
theorem qys(s:List Pr):∀t,putT (lsV s) (lsT s) t=putY s t:=by
 refine Ty.ind fun t ih=>?_
 rw[qxs,qro]
 split
 ·have hl:(lsT s).length=s.length:=by simp[lsT]
  rcases qyr t.var s 0 (Int.le_refl _) with ⟨h1,h2⟩ | ⟨i,h1,h2,h3⟩
  ·rw[h1,if_neg (by omega)]
  ·rw[h3,h2,if_pos (by omega)]
   simp only[Int.zero_add,Int.toNat_natCast]
 ·rw[List.map_congr_left ih]
theorem qbgh{s:List Pr}(h:okS s):∀t,bare t->bare (putY s t):=by
 refine Ty.ind fun t ih hb=>?_
 rw[qro]
 split
 ·cases hl:qm t.var s with
  | none=>exact hb
  | some u=>obtain⟨p,hp,_,rfl⟩:=qcg hl;exact qbi (h.2 p hp)
 ·rename_i hc
  rw[qxc]
  refine⟨fun h=>absurd h hc,?_⟩
  show qgl (t.args.map (putY s))
  have hm:=qoj ((qxc t).1 hb).2
  have:∀l:List Ty,(∀x∈l,bare (putY s x))->qgl (l.map (putY s)):=fun l=>by
   induction l with
   | nil=>intro _;rw[List.map_nil,qgl];trivial
   | cons x r ih2=>intro hx;rw[List.map_cons,qgl];exact⟨hx x (by simp),ih2 fun y hy=>hx y (by simp[hy])⟩
  exact this _ fun x hx=>ih x hx (hm x hx)
theorem qkb(S:SS)(t:Ty):typS S t=if lgY t=true then(if lgY (putY S.known t)=true then putY S.known t else Y0) else Y0:=by
 unfold typS typK
 cases h:lgY t
 ·simp
 ·simp only[if_true,qys]
theorem q9k{S:SS}{a b:Ty}(h:putY S.known a=putY S.known b)(hl:lgY a=lgY b):typS S a=typS S b:=by rw[qkb,qkb,h,hl]
theorem q16{V:List Int}{S:SS}{a:Ty}(h:Inv V S.known [])(hb:bare a)(h0:typS S a≠Y0):typS S (typS S a)=typS S a:=by
 rw[qkb] at h0
 have h1:=qkb S a
 by_cases c1:lgY a=true
 ·rw[if_pos c1] at h0 h1
  by_cases c2:lgY (putY S.known a)=true
  ·rw[if_pos c2] at h0 h1
   rw[h1,qkb,if_pos c2,qbz9 h.ok h.sep hb (qbgh h.ok a hb),if_pos c2]
  ·rw[if_neg c2] at h0;exact absurd rfl h0
 ·rw[if_neg c1] at h0;exact absurd rfl h0
/-! what is a type is one of System F -/
theorem qcjr(k:Nat):szYs (List.replicate k Y0)=k:=by
 induction k with
 | zero=>rw[List.replicate_zero,szYs]
 | succ k ih =>
   have h0:szY Y0=1:=rfl
   rw[List.replicate_succ,szYs,ih,h0];omega
theorem qchn(k:Nat):dpYs (List.replicate k Y0)≤1:=by
 induction k with
 | zero=>rw[List.replicate_zero,dpYs];omega
 | succ k ih =>
   have h0:dpY Y0=1:=rfl
   rw[List.replicate_succ,dpYs,h0];omega
theorem q6i(k:Nat):qbo (List.replicate k Y0)=true:=by
 induction k with
 | zero=>rw[List.replicate_zero,qbo]
 | succ k ih=>rw[List.replicate_succ,qbo,ih];rfl
theorem qca5{t:Ty}(h:qch t=true)(hl:szY t≤4096):okH t=true:=by
 have h1:=qd6 t.args
 rw[qdf] at hl
 have hm:min t.args.length 4095=t.args.length:=by omega
 have e:qwe t=.mk t.con t.var (List.replicate t.args.length Y0):=by rw[qwe,hm]
 have z1:szY (qwe t)≤4096:=by rw[e,szY,qcjr];omega
 have z2:dpY (qwe t)≤2:=by rw[e,dpY];have:=qchn t.args.length;omega
 rw[qdm,Bool.and_eq_true] at h
 rw[okH,qsx (by omega) (by omega),(qs _).2 ⟨z1,by omega,?_⟩,Bool.or_true]
 rw[qdm,e]
 show(qbo (List.replicate t.args.length Y0)&&mayW t.con t.var (List.replicate t.args.length Y0).length)=true
 rw[q6i,List.length_replicate,Bool.true_and]
 exact h.2
theorem qcbq{l:List Ty}(hl:∀x∈l,∀n k:Nat,qch x=true->szY x≤n->n≤4096->dpY x≤k->k≤100->lgF x n k=(((n-szY x:Nat):Int),true))(n k:Nat)(hs:qbo l=true)(h1:szYs l≤n)(h2:n≤4096)(h3:dpYs l≤k)(h4:k≤100):lgFs l n k=(((n-szYs l:Nat):Int),true):=by
 induction l generalizing n with
 | nil=>rw[lgFs,szYs];rfl
 | cons x r ih =>
   rw[szYs] at h1 ⊢
   rw[dpYs] at h3
   rw[qbo,Bool.and_eq_true] at hs
   rw[lgFs,hl x (by simp) n k hs.1 (by omega) h2 (by omega) h4,if_pos rfl,ih (fun y hy=>hl y (by simp[hy])) _ hs.2 (by omega) (by omega) (by omega)]
   rw[Nat.sub_sub]
theorem qcff:∀(t:Ty) (n k:Nat),qch t=true->szY t≤n->n≤4096->dpY t≤k->k≤100->lgF t n k=(((n-szY t:Nat):Int),true):=by
 refine Ty.ind fun t ih n k hs h1 h2 h3 h4=>?_
 have hp:=qdf t
 have hd:=qpb t
 have hsh:=hs
 rw[qdm,Bool.and_eq_true] at hs
 have e1:IntKind.i64.wrap ((n:Int)-1)=((n-1:Nat):Int):=by rw[qo (by omega) (by omega)];omega
 have e2:IntKind.i64.wrap ((k:Int)-1)=((k-1:Nat):Int):=by rw[qo (by omega) (by omega)];omega
 rw[qblx,e1,e2,if_neg (by omega),if_pos (qca5 hsh (by omega)),qcbq ih _ _ hs.1 (by omega) (by omega) (by omega) (by omega)]
 rw[Prod.mk.injEq]
 exact⟨by omega,rfl⟩
theorem qblb{t:Ty}(h:qh t=true):lgY t=true:=by
 obtain⟨h1,h2,h3⟩:=(qs t).1 h
 have:=qcff t 4096 100 h3 h1 (by omega) h2 (by omega)
 rw[lgY]
 have h5:lgF t 4096 100=lgF t ((4096:Nat):Int) ((100:Nat):Int):=rfl
 rw[h5,this]
set_option maxRecDepth 4000

structure RS where
 vars:Int
 fixed:Int
 names:Int
 holes:Int
 known:List Pr
 waits:List Wt
 fills:List (Int×Tm)
 err:Int
 pos:Int
def encF(p:Int×Tm):AV:=.agg [.int .i64 p.1,.int .i64 p.2.kind,.int .i64 p.2.num,.str p.2.name,.sl 1 (ints p.2.vars),.sl 3 (qg p.2.types),.sl 6 (qbn p.2.kids)]
def qh5(l:List (Int×Tm)):List AV:=l.map encF
theorem qv4(k:Nat)(x:Int×Tm):(encF x).bd k=true:=by simp only[encF,AV.bd,AV.bds,qd0,qbp,qhq,Bool.and_true]
theorem qqr(k:Nat)(l:List (Int×Tm)):AV.bds k (qh5 l)=true:=by rw[qh5,qc4,List.all_map,List.all_eq_true];exact fun x _=>qv4 k x
theorem qbey(σ:Nat->Nat)(x:Int×Tm):(encF x).ren σ=encF x:=ren_same (m:=0) (fun i hi=>by omega) _ (qv4 0 x)
theorem q7s(σ:Nat->Nat)(l:List (Int×Tm)):AV.rens σ (qh5 l)=qh5 l:=qp (m:=0) (fun i hi=>by omega) _ (qqr 0 l)
theorem qoa(l:List (Int×Tm)):(qh5 l).length=l.length:=by simp[qh5]
abbrev rsc(R:RS):List AV:=[.int .i64 R.vars,.int .i64 R.fixed,.int .i64 R.names,.int .i64 R.holes,.sl 4 (qz R.known),.sl 6 (qbh R.waits),.sl 7 (qh5 R.fills),.int .i64 R.err,.int .i64 R.pos]
def qby(R:RS):AV:=.agg (rsc R)
theorem qwu(R:RS):(qby R).cells=rsc R:=rfl
theorem qc3(k:Nat)(R:RS):(qby R).bd k=true:=by simp only[qby,AV.bd,AV.bds,qce,qcv,qqr,Bool.and_true]
theorem q6q(σ:Nat->Nat)(R:RS):(qby R).ren σ=qby R:=ren_same (m:=0) (fun i hi=>by omega) _ (qc3 0 R)
theorem qbbe(H:List Ent)(R:RS):co H (.agg [.id,.id,.id,.id,.sl 4,.sl 6,.sl 7,.id,.id]) (qby R)=qby R:=by
 simp only[qby,qj3,qew,qgj,qot,qev]
theorem q2d(R:RS):rdCo (.agg [.id,.id,.id,.id,.sl 4,.sl 6,.sl 7,.id,.id]) (qby R)=[]:=by
 simp only[qby,qex,qcz,qdu,qgk,qc1,List.append_nil]
theorem q8q(R:RS):(qby R).isAgg=true:=rfl
theorem qq4(R:RS):(qby R).leaf=false:=rfl
attribute [go_sem] qv4 qqr qbey q7s qoa qwu qc3 q6q qbbe q2d q8q qq4
theorem qtf(v:Int):qj Tryz.prog 75 [.int .i64 v] (encY (.mk [] v [])):=by
 refine qd c0fr (by simp) (by simp only[go_sem]) (qx 0 _) fun hw=>?_
 repeat'(first|refine vs_ ?_|((first|refine vr_ ?_|(refine cs_ ?_ ?_<;>intro hc)|refine cj_ ?_)<;>try refine ev_ ?_)|with_reducible exact ti_)
 all_goals rfl
def varR(R:RS):RS:={ R with vars:=IntKind.i64.wrap (R.vars+1) }
theorem q9d(R:RS):qj Tryz.prog 42 [qby R] (.tup [qby (varR R),encY (.mk [] (IntKind.i64.wrap (0-IntKind.i64.wrap (R.vars+1))) [])]):=by
 refine qd c0fs (by simp) (by simp only[go_sem]) (by simp only[AV.bd,AV.bds,qc3,qx,Bool.and_true]) fun hw=>?_
 have hV:=qtf (IntKind.i64.wrap (0-IntKind.i64.wrap (R.vars+1)))
 repeat'(first|refine vs_ ?_|((first|refine vr_ ?_|refine qa hV fun _=>?_|refine qc hV ?_|(refine cs_ ?_ ?_<;>intro hc)|refine cj_ ?_)<;>try refine ev_ ?_)|with_reducible exact ti_)
 all_goals rfl
def fixR(R:RS):RS:={ R with fixed:=IntKind.i64.wrap (R.fixed+1) }
theorem q34{R:RS}(hb:(Lit.int .i64 R.fixed).wf=true):qj Tryz.prog 43 [qby R] (.tup [qby (fixR R),encY (.mk (33::digI R.fixed) 0 [])]):=by
 refine qd c0ft (by simp) (by simp only[go_sem]) (by simp only[AV.bd,AV.bds,qc3,qx,Bool.and_true]) fun hw=>?_
 have hd:=qjq hb
 have hml:maxLen=9223372036854775807:=rfl
 repeat'(first|refine vs_ ?_|((first|refine vr_ ?_|refine qa (qf1 _) fun _=>?_|refine qc (qf1 _) ?_|(refine cs_ ?_ ?_<;>intro hc)|refine cj_ ?_)<;>try refine ev_ ?_)|with_reducible exact ti_)
 all_goals rfl
def qcdx(R:RS):RS:={ R with names:=IntKind.i64.wrap (R.names+1) }
theorem q0m{R:RS}(hb:(Lit.int .i64 R.names).wf=true):qj Tryz.prog 44 [qby R] (.tup [qby (qcdx R),.str (35::digI R.names)]):=by
 refine qd c0fu (by simp) (by simp only[go_sem]) (by simp only[AV.bd,AV.bds,qc3,Bool.and_true]) fun hw=>?_
 have hd:=qjq hb
 have hml:maxLen=9223372036854775807:=rfl
 repeat'(first|refine vs_ ?_|((first|refine vr_ ?_|refine qa (qf1 _) fun _=>?_|(refine cs_ ?_ ?_<;>intro hc)|refine cj_ ?_)<;>try refine ev_ ?_)|with_reducible exact ti_)
 all_goals rfl
def qv2(R:RS)(e pos:Int):RS:=if R.err=0 then { R with err:=if e=0 then 1 else e,pos:=pos } else R
theorem qo9(R:RS)(e pos:Int):qj Tryz.prog 18 [qby R,.int .i64 e,.int .i64 pos] (qby (qv2 R e pos)):=by
 refine qd c0fv (by simp) (by simp only[go_sem]) (qc3 0 _) fun hw=>?_
 unfold qv2
 by_cases h1:R.err=0
 ·rw[if_pos h1]
  by_cases h2:e=0
  ·rw[if_pos h2]
   repeat'(first|refine vs_ ?_|(refine vr_ ?_<;>try simp only[h1,h2,go_sem,↓reduceIte])|((first|(refine cs_ ?_ ?_<;>intro hc)|refine cj_ ?_)<;>try refine ev_ ?_)|with_reducible exact ti_)
   all_goals rfl
  ·rw[if_neg h2]
   repeat'(first|refine vs_ ?_|(refine vr_ ?_<;>try simp only[h1,h2,go_sem,↓reduceIte])|((first|(refine cs_ ?_ ?_<;>intro hc)|refine cj_ ?_)<;>try refine ev_ ?_)|with_reducible exact ti_)
   all_goals rfl
 ·rw[if_neg h1]
  repeat'(first|refine vs_ ?_|(refine vr_ ?_<;>try simp only[h1,go_sem,↓reduceIte])|((first|(refine cs_ ?_ ?_<;>intro hc)|refine cj_ ?_)<;>try refine ev_ ?_)|with_reducible exact ti_)
  all_goals rfl
def qr0(R:RS):Int:=IntKind.i64.wrap (IntKind.i64.wrap (R.holes+1)-1)
def useR(R:RS):RS:={ R with holes:=IntKind.i64.wrap (R.holes+1) }
theorem qtd(R:RS):qj Tryz.prog 46 [qby R] (.tup [qby (useR R),.int .i64 (qr0 R)]):=by
 refine qd c0fw (by simp) (by simp only[go_sem]) (by simp only[AV.bd,AV.bds,qc3,Bool.and_true]) fun hw=>?_
 repeat'(first|refine vs_ ?_|((first|refine vr_ ?_|(refine cs_ ?_ ?_<;>intro hc)|refine cj_ ?_)<;>try refine ev_ ?_)|with_reducible exact ti_)
 all_goals rfl
def qcor(R:RS)(n:Int):Int:=if R.waits.length<(if 0 > n then 0 else n) then R.waits.length else(if 0 > n then 0 else n)
def forR(R:RS)(n:Int):RS:={ R with waits:=R.waits.take (qcor R n).toNat }
theorem qsz{R:RS}{n:Int}:qj Tryz.prog 47 [qby R,.int .i64 n] (qby (forR R n)):=by
 refine qd c0fx (by simp) (by simp only[go_sem]) (qc3 0 _) fun hw=>?_
 repeat'(first|refine vs_ ?_|((first|refine vr_ ?_|(refine cs_ ?_ ?_<;>intro hc)|refine cj_ ?_)<;>try refine ev_ ?_)|with_reducible exact ti_)
 all_goals first | rfl
set_option maxRecDepth 4000

def q5p(vs:List Int)(ts:List Ty)(t:Ty)(i:Nat):AF×List Ent:=(⟨[(1,.sl 1 (ints vs)),(2,.sl 3 (qg ts)),(3,.ptr 0 0),(6,.ptr 1 0),(8,accV 2 (qg ((t.args.take i).map (putT vs ts)))),(9,.int .i64 i)],[]⟩,[.blk (yc t),.blk [.str [],.int .i64 0,.nils]]++accE 3 (qg ((t.args.take i).map (putT vs ts))))
theorem q67(vs:List Int)(ts:List Ty):∀t,szY t≤1000000->qj Tryz.prog 217 [encY t,.sl 1 (ints vs),.sl 3 (qg ts)] (encY (putT vs ts t)):=by
 refine Ty.ind fun t ih hb=>?_
 refine qd c0fq (by simp) (by simp only[go_sem]) (qx 0 _) fun hw=>?_
 have hk:=qcn hw.1
 have hsz:=qdf t
 have hal:=qd6 t.args
 have hvl:vs.length≤maxLen:=by have:=hw.2.1.1;rwa [qcm] at this
 have htl:ts.length≤maxLen:=by have:=hw.2.2.1.1;rwa [q8] at this
 rw[qxs]
 by_cases hc:t.con=[]
 ·rw[if_pos hc]
  have hf:AV.agg [.str [],.int .i64 t.var,.sl 3 (qg t.args)]=encY t:=by rw[←qbe t,hc]
  repeat'(first|refine vs_ ?_|(refine vr_ ?_<;>try simp only[hc,go_sem,↓reduceIte])|((first|(refine cs_ ?_ ?_<;>intro hc)|refine cj_ ?_)<;>try refine ev_ ?_)|with_reducible exact ti_)
  refine qk (S:=Nat) (fun i=>i≤vs.length∧idxW t.var (vs.drop i) i=idxW t.var vs 0) (fun i=>(⟨[(1,.sl 1 (ints vs)),(2,.sl 3 (qg ts)),(3,.ptr 0 0),(6,.ptr 1 0),(7,.int .i64 i)],[]⟩,[.blk [.str [],.int .i64 t.var,.sl 3 (qg t.args)],.blk [.str [],.int .i64 0,.nils]])) (fun i=>vs.length-i) ?_ fun i hi=>?_
  ·refine qf 0 [0,1] ⟨Nat.zero_le _,rfl⟩ rfl (by simp) ?_ ?_ ?_<;>(try refine ev_ ?_)<;>(try with_reducible exact ti_)<;>(try simp (disch:=omega) only[qb,and_true,true_and])
  ·obtain⟨hi,ha⟩:=hi
   by_cases hlt:i<vs.length
   ·have hg:=qfu hlt
    have hltI:(i:Int)<(vs.length:Int):=by omega
    rw[qwo hlt,idxW] at ha
    generalize vs.getD i 0=x at *
    by_cases hx:t.var=x
    ·rw[if_pos hx] at ha
     subst hx
     rw[←ha]
     by_cases h2:(i:Int)<(ts.length:Int)
     ·have hgt:=ql (l:=ts) (i:=i) (by omega)
      rw[if_pos ⟨by omega,h2⟩,Int.toNat_natCast]
      repeat'(first|refine vs_ ?_|(refine vr_ ?_<;>try simp only[hg,hltI,h2,hgt,go_sem,↓reduceIte])|((first|simp (disch:=omega) only[hg]|simp (disch:=omega) only[hgt]|(refine cs_ ?_ ?_<;>intro hc)|refine cj_ ?_)<;>try refine ev_ ?_)|with_reducible exact ti_)
      all_goals first | (exfalso;omega)
     ·rw[if_neg (by omega)]
      repeat'(first|refine vs_ ?_|(refine vr_ ?_<;>try simp only[hg,hltI,h2,go_sem,↓reduceIte])|((first|simp (disch:=omega) only[hg]|(refine cs_ ?_ ?_<;>intro hc)|refine cj_ ?_)<;>try refine ev_ ?_)|with_reducible exact ti_)
      all_goals first | (exfalso;omega) | rw[hf]
    ·rw[if_neg hx] at ha
     have hx':¬x=t.var:=fun h=>hx h.symm
     repeat'(first|refine vs_ ?_|(refine vr_ ?_<;>try simp (disch:=first|omega|(simp only[List.length_set,List.length_append,List.length_cons,List.length_nil];try omega)) only[hg,hltI,hx',qb,go_sem,↓reduceIte])|((first|simp (disch:=omega) only[hg]|(refine cs_ ?_ ?_<;>intro hc)|refine cj_ ?_)<;>try refine ev_ ?_)|with_reducible exact ti_)
     all_goals try(exfalso;omega)
     refine qf (i+1) [0,1] ⟨⟨by omega,ha⟩,by omega⟩ rfl (by simp) ?_ ?_ ?_<;>(try refine ev_ ?_)<;>(try with_reducible exact ti_)<;>(try simp (disch:=omega) only[qb,and_true,true_and])
   ·rw[List.drop_of_length_le (by omega),idxW] at ha
    rw[←ha,if_neg (by omega)]
    have hn:¬(i:Int)<(vs.length:Int):=by omega
    repeat'(first|refine vs_ ?_|(refine vr_ ?_<;>try simp only[hn,go_sem,↓reduceIte])|((first|(refine cs_ ?_ ?_<;>intro hc)|refine cj_ ?_)<;>try refine ev_ ?_)|with_reducible exact ti_)
    all_goals first | (exfalso;omega) | rw[hf]
 ·rw[if_neg hc]
  have hcd:decide (t.con=[])=false:=decide_eq_false hc
  have ih':∀i,i<t.args.length->qj Tryz.prog 217 [encY (t.args.getD i Y0),.sl 1 (ints vs),.sl 3 (qg ts)] (encY (putT vs ts (t.args.getD i Y0))):=fun i hi=>ih _ (qba hi) (by have:=qdd (qba hi);omega)
  repeat'(first|refine vs_ ?_|(refine vr_ ?_<;>try simp only[hcd,go_sem,↓reduceIte])|((first|(refine cs_ ?_ ?_<;>intro hc)|refine cj_ ?_)<;>try refine ev_ ?_)|with_reducible exact ti_)
  refine qk (S:=Nat) (fun i=>i≤t.args.length) (q5p vs ts t) (fun i=>t.args.length-i) ?_ fun i hi=>?_
  ·refine qf 0 [0,1] (Nat.zero_le _) rfl (by simp) ?_ ?_ ?_<;>simp only[q5p,List.take_zero,List.map_nil,qg,qq,qw,List.append_nil]<;>(try refine ev_ ?_)<;>(try with_reducible exact ti_)<;>(try simp (disch:=omega) only[qb,and_true,true_and])
  ·unfold q5p
   have hol:(qg ((t.args.take i).map (putT vs ts))).length=i:=by rw[q8,List.length_map,List.length_take];omega
   have hol2:((t.args.take i).map (putT vs ts)).length=i:=by rw[←q8];exact hol
   by_cases hlt:i<t.args.length
   ·have hg:=ql hlt
    have hcall:=ih' i hlt
    have hltI:(i:Int)<(t.args.length:Int):=by omega
    have e1:qg ((t.args.take i).map (putT vs ts))++[encY (putT vs ts (t.args.getD i Y0))]=qg ((t.args.take (i+1)).map (putT vs ts)):=by rw[qe4,qh0 hlt,List.map_append];rfl
    have c1:qbj (i+1) 48=True:=eq_true (by unfold qbj;omega)
    generalize t.args.getD i Y0=x at *
    generalize putT vs ts x=y at *
    by_cases h0:i=0
    ·subst h0
     have n1:qg ((t.args.take 0).map (putT vs ts))=[]:=rfl
     rw[n1] at e1
     rw[n1]
     have hif0:(0:Int)<(t.args.length:Int):=by omega
     simp only[qq,qw,List.append_nil]
     repeat'(first|refine vs_ ?_|(refine vr_ ?_<;>try simp (disch:=first|omega|(simp only[List.length_set,List.length_append,List.length_cons,List.length_nil];try omega)) only[hg,hif0,qb,c1,go_sem,↓reduceIte])|((first|simp (disch:=omega) only[hg]|(refine cs_ ?_ ?_<;>intro hc)|refine cj_ ?_|refine qa hcall fun _=>?_|refine qc hcall ?_)<;>try refine ev_ ?_)|with_reducible exact ti_)
     all_goals try(exfalso;omega)
     refine qf 1 [0,1,2] ⟨by omega,by omega⟩ rfl (by simp) ?_ ?_ ?_<;>simp only[q5p,←e1,List.nil_append,qdb,qes]<;>(try refine ev_ ?_)<;>(try with_reducible exact ti_)<;>(try simp (disch:=omega) only[qb,and_true,true_and])
     all_goals first | rfl
    ·have n1:qg ((t.args.take i).map (putT vs ts))≠[]:=fun h=>h0 (by rw[←hol,h];rfl)
     simp only[q9 n1,qbc n1,hol]
     repeat'(first|refine vs_ ?_|(refine vr_ ?_<;>try simp (disch:=first|omega|(simp only[List.length_set,List.length_append,List.length_cons,List.length_nil];try omega)) only[hg,hltI,hol,hol2,qb,c1,go_sem,↓reduceIte])|((first|simp (disch:=omega) only[hg]|(refine cs_ ?_ ?_<;>intro hc)|refine cj_ ?_|refine qa hcall fun _=>?_|refine qc hcall ?_)<;>try refine ev_ ?_)|with_reducible exact ti_)
     all_goals try(exfalso;omega)
     refine qf (i+1) [0,1,3] ⟨by omega,by omega⟩ rfl (by simp) ?_ ?_ ?_<;>simp only[q5p,←e1,qcs,qdo,hol,hol2]<;>(try refine ev_ ?_)<;>(try with_reducible exact ti_)<;>(try simp (disch:=omega) only[qb,and_true,true_and])
     all_goals first | (rw[e1];exact⟨qbp _ _,by rw[qc8]⟩) | (rw[qo (by omega) (by omega),Int.natCast_add];rfl)
   ·have hie:i=t.args.length:=by omega
    subst hie
    rw[List.take_length] at hol ⊢
    have hn:¬(t.args.length:Int)<(t.args.length:Int):=by omega
    by_cases h0:t.args=[]
    ·have n1:qg (t.args.map (putT vs ts))=[]:=by rw[h0];rfl
     have n2:t.args.map (putT vs ts)=[]:=by rw[h0];rfl
     rw[n1,n2]
     simp only[qq,qw,List.append_nil]
     repeat'(first|refine vs_ ?_|(refine vr_ ?_<;>try simp only[hn,go_sem,↓reduceIte])|((first|(refine cs_ ?_ ?_<;>intro hc)|refine cj_ ?_)<;>try refine ev_ ?_)|with_reducible exact ti_)
     all_goals first | (exfalso;omega) | rfl
    ·have n1:qg (t.args.map (putT vs ts))≠[]:=fun h=>h0 (List.length_eq_zero_iff.1 (by rw[←hol,h];rfl))
     simp only[q9 n1,qbc n1,hol]
     have hol3:(t.args.map (putT vs ts)).length=t.args.length:=by simp
     repeat'(first|refine vs_ ?_|(refine vr_ ?_<;>try simp only[hn,hol,hol3,go_sem,↓reduceIte])|((first|(refine cs_ ?_ ?_<;>intro hc)|refine cj_ ?_)<;>try refine ev_ ?_)|with_reducible exact ti_)
     all_goals first | (exfalso;omega) | (rw[encY])
set_option maxRecDepth 4000

def clR(s:List UInt8):List UInt8 :=
 if s.length<3 then [] else if ¬((s.getD 0 0).toNat:Int)=123 then [] else if ¬((s.getD (s.length-1) 0).toNat:Int)=125 then [] else
 if conW ((s.take (s.length-1)).drop 1)=true then(s.take (s.length-1)).drop 1 else []
theorem qwh(s:List UInt8):qj Tryz.prog 245 [.str s] (.str (clR s)):=by
 refine qd c0fo (by simp) (by simp only[go_sem]) rfl fun hw=>?_
 have hsl:s.length≤maxLen:=hw.1
 have hml:maxLen=9223372036854775807:=rfl
 unfold clR
 by_cases h3:s.length<3
 ·rw[if_pos h3]
  have h3i:(s.length:Int)<3:=by omega
  repeat'(first|refine vs_ ?_|(refine vr_ ?_<;>try simp only[h3i,go_sem,↓reduceIte])|((first|(refine cs_ ?_ ?_<;>intro hc)|refine cj_ ?_)<;>try refine ev_ ?_)|with_reducible exact ti_)
 rw[if_neg h3]
 have h3i:¬(s.length:Int)<3:=by omega
 by_cases h0:((s.getD 0 0).toNat:Int)=123
 ·rw[if_neg (by simpa using h0)]
  have hwr:IntKind.i64.wrap ((s.length:Int)-1)=((s.length-1:Nat):Int):=by rw[qo (by omega) (by omega)];omega
  by_cases h1:((s.getD (s.length-1) 0).toNat:Int)=125
  ·rw[if_neg (by simpa using h1)]
   have hC:=qsf ((s.take (s.length-1)).drop 1)
   generalize hM:(s.take (s.length-1)).drop 1=M at *
   cases hc:conW M with
   | true =>
     rw[hc] at hC
     rw[if_pos rfl]
     repeat'(first|refine vs_ ?_|(refine vr_ ?_<;>try simp only[h3i,h0,h1,hwr,Int.toNat_natCast,hM,go_sem,↓reduceIte])|((first|(refine cs_ ?_ ?_<;>intro hc)|refine cj_ ?_|refine qa hC fun _=>?_)<;>try refine ev_ ?_)|with_reducible exact ti_)
     all_goals first | (exfalso;omega)
   | false =>
     rw[hc] at hC
     rw[if_neg (by simp)]
     repeat'(first|refine vs_ ?_|(refine vr_ ?_<;>try simp only[h3i,h0,h1,hwr,Int.toNat_natCast,hM,go_sem,↓reduceIte])|((first|(refine cs_ ?_ ?_<;>intro hc)|refine cj_ ?_|refine qa hC fun _=>?_)<;>try refine ev_ ?_)|with_reducible exact ti_)
     all_goals first | (exfalso;omega)
  ·rw[if_pos (by simpa using h1)]
   repeat'(first|refine vs_ ?_|(refine vr_ ?_<;>try simp only[h3i,h0,h1,hwr,Int.toNat_natCast,go_sem,↓reduceIte])|((first|(refine cs_ ?_ ?_<;>intro hc)|refine cj_ ?_)<;>try refine ev_ ?_)|with_reducible exact ti_)
   all_goals first | (exfalso;omega)
 ·rw[if_pos (by simpa using h0)]
  repeat'(first|refine vs_ ?_|(refine vr_ ?_<;>try simp only[h3i,h0,go_sem,↓reduceIte])|((first|(refine cs_ ?_ ?_<;>intro hc)|refine cj_ ?_)<;>try refine ev_ ?_)|with_reducible exact ti_)
def qbgk(t:Ty):Bool:=!decide (clR t.con=[])&&decide ((t.args.length:Int)=1)&&decide (t.var=0)
def q5n(t:Ty):AV:=if qbgk t=true then .tup [.str (clR t.con),encY (t.args.getD 0 Y0),.bool true] else .tup [.str [],encY Y0,.bool false]
theorem qvs(t:Ty):qj Tryz.prog 239 [encY t] (q5n t):=by
 refine qd c0fp (by simp) (by simp only[go_sem]) (by unfold q5n;split<;>simp only[AV.bd,AV.bds,qx,Bool.and_true]) fun hw=>?_
 have hk:=qcn hw.1
 have h1:=qwh t.con
 have hz:AV.agg [.str [],.int .i64 0,.sl 3 []]=encY Y0:=rfl
 unfold q5n qbgk
 generalize clR t.con=c at *
 by_cases hc:c=[]
 ·subst hc
  rw[if_neg (by simp)]
  repeat'(first|refine vs_ ?_|(refine vr_ ?_<;>try simp only[hz,go_sem,↓reduceIte])|((first|(refine cs_ ?_ ?_<;>intro hc)|refine cj_ ?_|refine qa h1 fun _=>?_|refine qc h1 ?_)<;>try refine ev_ ?_)|with_reducible exact ti_)
 ·by_cases hn:(t.args.length:Int)=1
  ·by_cases hv:t.var=0
   ·rw[if_pos (by simp[hc,hn,hv])]
    have hg:=ql (l:=t.args) (i:=0) (by omega)
    repeat'(first|refine vs_ ?_|(refine vr_ ?_<;>try simp only[hz,hc,hn,hv,hg,go_sem,↓reduceIte])|((first|simp (disch:=omega) only[hg]|(refine cs_ ?_ ?_<;>intro hc)|refine cj_ ?_|refine qa h1 fun _=>?_|refine qc h1 ?_)<;>try refine ev_ ?_)|with_reducible exact ti_)
    all_goals first | (exfalso;omega) | contradiction
   ·rw[if_neg (by simp[hv])]
    repeat'(first|refine vs_ ?_|(refine vr_ ?_<;>try simp only[hz,hc,hn,hv,go_sem,↓reduceIte])|((first|(refine cs_ ?_ ?_<;>intro hc)|refine cj_ ?_|refine qa h1 fun _=>?_|refine qc h1 ?_)<;>try refine ev_ ?_)|with_reducible exact ti_)
    all_goals first | (exfalso;omega) | contradiction
  ·rw[if_neg (by simp[hn])]
   repeat'(first|refine vs_ ?_|(refine vr_ ?_<;>try simp only[hz,hc,hn,go_sem,↓reduceIte])|((first|(refine cs_ ?_ ?_<;>intro hc)|refine cj_ ?_|refine qa h1 fun _=>?_|refine qc h1 ?_)<;>try refine ev_ ?_)|with_reducible exact ti_)
   all_goals first | (exfalso;omega) | contradiction
set_option maxRecDepth 4000

def qqb(t:Ty):Ty:=.mk t.con t.var (List.replicate t.args.length Y0)
def q2a(t:Ty):Bool:=qbgk t||(decide (4096≤t.args.length)||qh (qqb t))
mutual
def shR:Ty->Bool
 | .mk c v l=>shRs l&&q2a (.mk c v l)
def shRs:List Ty->Bool
 | []=>true
 | x::r=>shR x&&shRs r
end
theorem qcfk(t:Ty):shR t=(shRs t.args&&q2a t):=by cases t;rw[shR];rfl
theorem qbeo(n:Nat):szYs (List.replicate n Y0)=n:=by
 induction n with
 | zero=>rfl
 | succ n ih=>rw[List.replicate_succ,szYs,ih,show szY Y0=1 from rfl];omega
def shSt(t:Ty)(i:Nat):AF×List Ent:=(⟨[(1,.ptr 0 0),(7,.ptr 1 0),(8,.int .i64 i)],[]⟩,[.blk (yc t),.blk [.str t.con,.int .i64 t.var,accV 2 (qg (List.replicate i Y0))]]++accE 3 (qg (List.replicate i Y0)))
set_option maxHeartbeats 1000000 in
theorem qwl:∀t,szY t≤1000000000->qj Tryz.prog 216 [encY t] (.bool (shR t)):=by
 refine Ty.ind fun t ih hb=>?_
 refine qd c0fm (by simp) (by simp only[go_sem]) rfl fun hw=>?_
 have hk:=qcn hw.1
 have hsz:=qdf t
 have hal:=qd6 t.args
 have hz:AV.agg [.str [],.int .i64 0,.sl 3 []]=encY Y0:=rfl
 rw[qcfk]
 repeat'(first|refine vs_ ?_|((first|refine vr_ ?_|(refine cs_ ?_ ?_<;>intro hc)|refine cj_ ?_)<;>try refine ev_ ?_)|with_reducible exact ti_)
 refine qk (S:=Nat) (fun i=>i≤t.args.length∧shRs (t.args.drop i)=shRs t.args) (fun i=>(⟨[(1,.ptr 0 0),(3,.int .i64 i)],[]⟩,[.blk (yc t)])) (fun i=>t.args.length-i) ?_ fun i hi=>?_
 ·refine qf 0 [0] ⟨Nat.zero_le _,rfl⟩ rfl (by simp) ?_ ?_ ?_<;>(try refine ev_ ?_)<;>(try with_reducible exact ti_)<;>(try simp (disch:=omega) only[qb,and_true,true_and])
 ·obtain⟨hi,ha⟩:=hi
  by_cases hlt:i<t.args.length
  ·have hg:=ql hlt
   have hltI:(i:Int)<(t.args.length:Int):=by omega
   have hcall:=ih _ (qba hlt) (by have:=qdd (qba hlt);omega)
   rw[qj1 hlt,shRs] at ha
   generalize t.args.getD i Y0=x at *
   cases hx:shR x with
   | false =>
     rw[hx] at hcall ha
     rw[←ha]
     repeat'(first|refine vs_ ?_|(refine vr_ ?_<;>try simp (disch:=first|omega|(simp only[List.length_set,List.length_append,List.length_cons,List.length_nil];try omega)) only[hg,hltI,qb,go_sem,↓reduceIte])|((first|simp (disch:=omega) only[hg]|(refine cs_ ?_ ?_<;>intro hc)|refine cj_ ?_|refine qa hcall fun _=>?_|refine qc hcall ?_)<;>try refine ev_ ?_)|with_reducible exact ti_)
     all_goals first | (exfalso;omega)
   | true =>
     rw[hx] at hcall ha
     repeat'(first|refine vs_ ?_|(refine vr_ ?_<;>try simp (disch:=first|omega|(simp only[List.length_set,List.length_append,List.length_cons,List.length_nil];try omega)) only[hg,hltI,qb,go_sem,↓reduceIte])|((first|simp (disch:=omega) only[hg]|(refine cs_ ?_ ?_<;>intro hc)|refine cj_ ?_|refine qa hcall fun _=>?_|refine qc hcall ?_)<;>try refine ev_ ?_)|with_reducible exact ti_)
     all_goals try(exfalso;omega)
     refine qf (i+1) [0] ⟨⟨by omega,by rw[←ha];rfl⟩,by omega⟩ rfl (by simp) ?_ ?_ ?_<;>(try refine ev_ ?_)<;>(try with_reducible exact ti_)<;>(try simp (disch:=omega) only[qb,and_true,true_and])
     all_goals first | rfl | (rw[qo (by omega) (by omega),Int.natCast_add];rfl)
  ·rw[List.drop_of_length_le (by omega),shRs] at ha
   rw[←ha,Bool.true_and]
   have hn:¬(i:Int)<(t.args.length:Int):=by omega
   have hC:=qvs t
   cases hd:qbgk t with
   | true =>
     rw[q5n,if_pos hd] at hC
     have hl:q2a t=true:=by rw[q2a,hd];rfl
     rw[hl]
     repeat'(first|refine vs_ ?_|(refine vr_ ?_<;>try simp only[hn,hz,go_sem,↓reduceIte])|((first|(refine cs_ ?_ ?_<;>intro hc)|refine cj_ ?_|refine qa hC fun _=>?_|refine qc hC ?_)<;>try refine ev_ ?_)|with_reducible exact ti_)
     all_goals first | (exfalso;omega)
   | false =>
     rw[q5n,if_neg (by rw[hd];simp)] at hC
     have hl:q2a t=(decide (4096≤t.args.length)||qh (qqb t)):=by rw[q2a,hd];rfl
     rw[hl]
     repeat'(first|refine vs_ ?_|(refine vr_ ?_<;>try simp only[hn,hz,go_sem,↓reduceIte])|((first|(refine cs_ ?_ ?_<;>intro hc)|refine cj_ ?_|refine qa hC fun _=>?_|refine qc hC ?_)<;>try refine ev_ ?_)|with_reducible exact ti_)
     have hV:=qtf 0
     rw[show encY (.mk [] 0 [])=encY Y0 from rfl] at hV
     refine qk (S:=Nat) (fun i=>i≤t.args.length) (shSt t) (fun i=>t.args.length-i) ?_ fun i hi=>?_
     ·refine qf 0 [0,2] (Nat.zero_le _) rfl (by simp) ?_ ?_ ?_<;>simp only[shSt,List.replicate_zero,qg,qq,qw,List.append_nil]<;>(try refine ev_ ?_)<;>(try with_reducible exact ti_)<;>(try simp (disch:=omega) only[qb,and_true,true_and])
     ·unfold shSt
      have hol:(qg (List.replicate i Y0)).length=i:=by rw[q8,List.length_replicate]
      have hol2:(List.replicate i Y0).length=i:=List.length_replicate
      by_cases hlt:i<t.args.length
      ·have hltI:(i:Int)<(t.args.length:Int):=by omega
       have e1:qg (List.replicate i Y0)++[encY Y0]=qg (List.replicate (i+1) Y0):=by rw[qe4,←List.replicate_succ']
       have c1:qbj (i+1) 48=True:=eq_true (by unfold qbj;omega)
       by_cases h0:i=0
       ·subst h0
        have n1:qg (List.replicate 0 Y0)=[]:=rfl
        rw[n1] at e1
        rw[n1]
        have hif0:(0:Int)<(t.args.length:Int):=by omega
        simp only[qq,qw,List.append_nil]
        repeat'(first|refine vs_ ?_|(refine vr_ ?_<;>try simp (disch:=first|omega|(simp only[List.length_set,List.length_append,List.length_cons,List.length_nil];try omega)) only[hif0,qb,c1,go_sem,↓reduceIte])|((first|(refine cs_ ?_ ?_<;>intro hc)|refine cj_ ?_|refine qa hV fun _=>?_|refine qc hV ?_)<;>try refine ev_ ?_)|with_reducible exact ti_)
        all_goals try(exfalso;omega)
        refine qf 1 [0,1,2] ⟨by omega,by omega⟩ rfl (by simp) ?_ ?_ ?_<;>simp only[shSt,←e1,List.nil_append,qdb,qes]<;>(try refine ev_ ?_)<;>(try with_reducible exact ti_)<;>(try simp (disch:=omega) only[qb,and_true,true_and])
        all_goals first | rfl
       ·have n1:qg (List.replicate i Y0)≠[]:=fun h=>h0 (by rw[←hol,h];rfl)
        simp only[q9 n1,qbc n1,hol]
        repeat'(first|refine vs_ ?_|(refine vr_ ?_<;>try simp (disch:=first|omega|(simp only[List.length_set,List.length_append,List.length_cons,List.length_nil];try omega)) only[hltI,hol,hol2,qb,c1,go_sem,↓reduceIte])|((first|(refine cs_ ?_ ?_<;>intro hc)|refine cj_ ?_|refine qa hV fun _=>?_|refine qc hV ?_)<;>try refine ev_ ?_)|with_reducible exact ti_)
        all_goals try(exfalso;omega)
        refine qf (i+1) [0,1,3] ⟨by omega,by omega⟩ rfl (by simp) ?_ ?_ ?_<;>simp only[shSt,←e1,qcs,qdo,hol,hol2]<;>(try refine ev_ ?_)<;>(try with_reducible exact ti_)<;>(try simp (disch:=omega) only[qb,and_true,true_and])
        all_goals first | (rw[e1];exact⟨qbp _ _,by rw[qc8]⟩) | (rw[qo (by omega) (by omega),Int.natCast_add];rfl)
      ·have hie:i=t.args.length:=by omega
       subst hie
       have hn:¬(t.args.length:Int)<(t.args.length:Int):=by omega
       have hfl:AV.agg [.str t.con,.int .i64 t.var,.sl 3 (qg (List.replicate t.args.length Y0))]=encY (qqb t):=by rw[←qbe];rfl
       by_cases hbig:4096≤t.args.length
       ·have hbi:(4096:Int)≤(t.args.length:Int):=by omega
        have n1:qg (List.replicate t.args.length Y0)≠[]:=fun h=>by rw[h] at hol;simp at hol;omega
        simp only[q9 n1,qbc n1,hol]
        rw[decide_eq_true hbig,Bool.true_or]
        repeat'(first|refine vs_ ?_|(refine vr_ ?_<;>try simp only[hn,hbi,go_sem,↓reduceIte])|((first|(refine cs_ ?_ ?_<;>intro hc)|refine cj_ ?_)<;>try refine ev_ ?_)|with_reducible exact ti_)
        all_goals first | (exfalso;omega)
       ·have hbi:¬(4096:Int)≤(t.args.length:Int):=by omega
        rw[decide_eq_false hbig,Bool.false_or]
        have hs1:szY (qqb t)≤20000:=by rw[qdf,show(qqb t).args=List.replicate t.args.length Y0 from rfl,qbeo];omega
        have hdp:dpY (qqb t)≤300:=by
         have:dpYs (qqb t).args≤1:=by
          rw[show(qqb t).args=List.replicate t.args.length Y0 from rfl]
          generalize t.args.length=m
          induction m with
          | zero=>exact Nat.zero_le _
          | succ m ihm=>rw[List.replicate_succ,dpYs,show dpY Y0=1 from rfl];omega
         have:=qpb (qqb t);omega
        have hL:=qd1 hs1 hdp
        by_cases h0:t.args=[]
        ·have n1:qg (List.replicate t.args.length Y0)=[]:=by rw[h0];rfl
         rw[n1] at hfl ⊢
         simp only[qq,qw,List.append_nil]
         rw[←hfl] at hL
         repeat'(first|refine vs_ ?_|(refine vr_ ?_<;>try simp only[hn,hbi,go_sem,↓reduceIte])|((first|(refine cs_ ?_ ?_<;>intro hc)|refine cj_ ?_|refine qa hL fun _=>?_|refine qc hL ?_)<;>try refine ev_ ?_)|with_reducible exact ti_)
         all_goals first | (exfalso;omega)
        ·have n1:qg (List.replicate t.args.length Y0)≠[]:=fun h=>h0 (List.length_eq_zero_iff.1 (by rw[←hol,h];rfl))
         simp only[q9 n1,qbc n1,hol]
         repeat'(first|refine vs_ ?_|(refine vr_ ?_<;>try simp only[hn,hbi,hol,hol2,hfl,go_sem,↓reduceIte])|((first|(refine cs_ ?_ ?_<;>intro hc)|refine cj_ ?_|refine qa hL fun _=>?_|refine qc hL ?_)<;>try refine ev_ ?_)|with_reducible exact ti_)
         all_goals first | (exfalso;omega)
/-! Legal -/
def lgR(t:Ty):Bool:=decide (qde t≤4096)&&decide (qn7 t≤100)&&shR t
theorem qis(t:Ty)(hb:szY t≤1000000000):qj Tryz.prog 172 [encY t] (.bool (lgR t)):=by
 refine qd c0fn (by simp) (by simp only[go_sem]) rfl fun hw=>?_
 have h1:=qd3 t
 have h2:=qmt t
 have h3:=qwl t hb
 unfold lgR
 generalize qde t=a at *
 generalize qn7 t=b at *
 generalize shR t=c at *
 by_cases q1:a≤4096
 ·by_cases q2:b≤100
  ·rw[decide_eq_true q1,decide_eq_true q2]
   repeat'(first|refine vs_ ?_|(refine vr_ ?_<;>try simp only[q1,q2,go_sem,↓reduceIte])|((first|(refine cs_ ?_ ?_<;>intro hc)|refine cj_ ?_|fail|refine qa h1 fun _=>?_|refine qa h2 fun _=>?_|refine qa h3 fun _=>?_)<;>try refine ev_ ?_)|with_reducible exact ti_)
   all_goals first | (exfalso;omega)
  ·rw[decide_eq_true q1,decide_eq_false q2]
   repeat'(first|refine vs_ ?_|(refine vr_ ?_<;>try simp only[q1,q2,go_sem,↓reduceIte])|((first|(refine cs_ ?_ ?_<;>intro hc)|refine cj_ ?_|fail|refine qa h1 fun _=>?_|refine qa h2 fun _=>?_)<;>try refine ev_ ?_)|with_reducible exact ti_)
   all_goals first | (exfalso;omega)
 ·rw[decide_eq_false q1]
  repeat'(first|refine vs_ ?_|(refine vr_ ?_<;>try simp only[q1,go_sem,↓reduceIte])|((first|(refine cs_ ?_ ?_<;>intro hc)|refine cj_ ?_|fail|refine qa h1 fun _=>?_)<;>try refine ev_ ?_)|with_reducible exact ti_)
  all_goals first | (exfalso;omega)
set_option maxRecDepth 4000

def hasR(t:Tm)(nm:Bool)(n k:Int):Bool:=((!decide (t.name=[])) == nm)&&decide (t.num=0)&&decide ((t.vars.length:Int)=0)&&decide ((t.types.length:Int)=n)&&decide ((t.kids.length:Int)=k)
theorem qcr(t:Tm)(nm:Bool)(n k:Int):qj Tryz.prog 166 [encT t,.bool nm,.int .i64 n,.int .i64 k] (.bool (hasR t nm n k)):=by
 refine qd c0fi (by simp) (by simp only[go_sem]) rfl fun hw=>?_
 obtain⟨hk1,hk2,hk3⟩:=qcc hw.1
 repeat'(first|refine vs_ ?_|((first|refine vr_ ?_|(refine cs_ ?_ ?_<;>intro hc)|refine cj_ ?_)<;>try refine ev_ ?_)|with_reducible exact ti_)
 all_goals(unfold hasR;clear hw;grind)
def q1z(t:Tm)(k:Int):Bool:=decide (t.name=[])&&decide ((t.vars.length:Int)=0)&&decide ((t.types.length:Int)=0)&&decide ((t.kids.length:Int)=k)
theorem qku(t:Tm)(k:Int):qj Tryz.prog 167 [encT t,.int .i64 k] (.bool (q1z t k)):=by
 refine qd c0fj (by simp) (by simp only[go_sem]) rfl fun hw=>?_
 obtain⟨hk1,hk2,hk3⟩:=qcc hw.1
 repeat'(first|refine vs_ ?_|((first|refine vr_ ?_|(refine cs_ ?_ ?_<;>intro hc)|refine cj_ ?_)<;>try refine ev_ ?_)|with_reducible exact ti_)
 all_goals(unfold q1z;clear hw;grind)
theorem qnb{l:List Ty}(hb:∀x∈l,szY x≤1000000):qj Tryz.prog 168 [.sl 3 (qg l)] (.bool (l.all lgR)):=by
 refine qd c0fk (by simp) (by simp only[go_sem]) rfl fun hw=>?_
 have hl:l.length≤maxLen:=by have:=hw.1.1;rwa [q8] at this
 repeat'(first|refine vs_ ?_|((first|refine vr_ ?_|(refine cs_ ?_ ?_<;>intro hc)|refine cj_ ?_)<;>try refine ev_ ?_)|with_reducible exact ti_)
 refine qk (S:=Nat) (fun i=>i≤l.length∧(l.drop i).all lgR=l.all lgR) (fun i=>(⟨[(0,.sl 3 (qg l)),(3,.int .i64 i)],[]⟩,[])) (fun i=>l.length-i) ?_ fun i hi=>?_
 ·refine qf 0 [] ⟨Nat.zero_le _,rfl⟩ rfl (by simp) ?_ ?_ ?_<;>(try refine ev_ ?_)<;>(try with_reducible exact ti_)<;>(try simp (disch:=omega) only[qb,and_true,true_and])
 ·obtain⟨hi,ha⟩:=hi
  by_cases hlt:i<l.length
  ·have hg:=ql hlt
   have hltI:(i:Int)<(l.length:Int):=by omega
   have hcall:=qis _ (Nat.le_trans (hb _ (qba hlt)) (by decide))
   rw[qj1 hlt,List.all_cons] at ha
   generalize l.getD i Y0=x at *
   cases hx:lgR x with
   | false =>
     rw[hx] at hcall ha
     rw[←ha]
     repeat'(first|refine vs_ ?_|(refine vr_ ?_<;>try simp (disch:=first|omega|(simp only[List.length_set,List.length_append,List.length_cons,List.length_nil];try omega)) only[hg,hltI,qb,go_sem,↓reduceIte])|((first|simp (disch:=omega) only[hg]|(refine cs_ ?_ ?_<;>intro hc)|refine cj_ ?_|refine qa hcall fun _=>?_)<;>try refine ev_ ?_)|with_reducible exact ti_)
     all_goals first | (exfalso;omega)
   | true =>
     rw[hx] at hcall ha
     repeat'(first|refine vs_ ?_|(refine vr_ ?_<;>try simp (disch:=first|omega|(simp only[List.length_set,List.length_append,List.length_cons,List.length_nil];try omega)) only[hg,hltI,qb,go_sem,↓reduceIte])|((first|simp (disch:=omega) only[hg]|(refine cs_ ?_ ?_<;>intro hc)|refine cj_ ?_|refine qa hcall fun _=>?_)<;>try refine ev_ ?_)|with_reducible exact ti_)
     all_goals try(exfalso;omega)
     refine qf (i+1) [] ⟨⟨by omega,by rw[←ha];rfl⟩,by omega⟩ rfl (by simp) ?_ ?_ ?_<;>(try refine ev_ ?_)<;>(try with_reducible exact ti_)<;>(try simp (disch:=omega) only[qb,and_true,true_and])
     all_goals first | rfl | (rw[qo (by omega) (by omega),Int.natCast_add];rfl)
  ·rw[List.drop_of_length_le (by omega)] at ha
   rw[←ha]
   have hn:¬(i:Int)<(l.length:Int):=by omega
   repeat'(first|refine vs_ ?_|(refine vr_ ?_<;>try simp only[hn,go_sem,↓reduceIte])|((first|(refine cs_ ?_ ?_<;>intro hc)|refine cj_ ?_)<;>try refine ev_ ?_)|with_reducible exact ti_)
   all_goals first | (exfalso;omega) | rfl
mutual
def lvTR:Tm->Int
 | .mk _ _ _ _ _ ks=>IntKind.i64.wrap (qxi 0 ks+1)
def qxi:Int->List Tm->Int
 | a,[]=>a
 | a,x::r=>qxi (if lvTR x > a then lvTR x else a) r
end
theorem qbqw(t:Tm):lvTR t=IntKind.i64.wrap (qxi 0 t.kids+1):=by cases t;rw[lvTR];rfl
theorem qvb:∀t,qj Tryz.prog 118 [encT t] (.int .i64 (lvTR t)):=by
 refine Tm.ind fun t ih=>?_
 refine qd c0fl (by simp) (by simp only[go_sem]) rfl fun hw=>?_
 obtain⟨hk1,hk2,hk3⟩:=qcc hw.1
 rw[qbqw]
 repeat'(first|refine vs_ ?_|((first|refine vr_ ?_|(refine cs_ ?_ ?_<;>intro hc)|refine cj_ ?_)<;>try refine ev_ ?_)|with_reducible exact ti_)
 refine qk (S:=Nat×Int) (fun s=>s.1≤t.kids.length∧qxi s.2 (t.kids.drop s.1)=qxi 0 t.kids) (fun s=>(⟨[(1,.ptr 0 0),(3,.int .i64 s.2),(4,.int .i64 s.1)],[]⟩,[.blk (tmc t)])) (fun s=>t.kids.length-s.1) ?_ fun s hs=>?_
 ·refine qf (0,0) [0] ⟨Nat.zero_le _,rfl⟩ rfl (by simp) ?_ ?_ ?_<;>(try refine ev_ ?_)<;>(try with_reducible exact ti_)<;>(try simp (disch:=omega) only[qb,and_true,true_and])
 ·obtain⟨i,a⟩:=s
  obtain⟨hi,ha⟩:=hs
  dsimp only at hi ha
  by_cases hlt:i<t.kids.length
  ·have hcall:=ih _ (qbk hlt)
   rw[qf2 hlt,qxi] at ha
   have hg:=qbd hlt
   have hltI:(i:Int)<(t.kids.length:Int):=by omega
   generalize t.kids.getD i T0=x at *
   repeat'(first|refine vs_ ?_|(refine vr_ ?_<;>try simp (disch:=first|omega|(simp only[List.length_set,List.length_append,List.length_cons,List.length_nil];try omega)) only[hg,hltI,qb,go_sem,↓reduceIte])|((first|simp (disch:=omega) only[hg]|(refine cs_ ?_ ?_<;>intro hc)|refine cj_ ?_|refine qa hcall fun _=>?_)<;>try refine ev_ ?_)|with_reducible exact ti_)
   all_goals try(exfalso;omega)
   refine qf (i+1,if lvTR x > a then lvTR x else a) [0] ⟨⟨by dsimp only;omega,ha⟩,by dsimp only;omega⟩ rfl (by simp) ?_ ?_ ?_<;>(try refine ev_ ?_)<;>(try with_reducible exact ti_)<;>(try simp (disch:=omega) only[qb,and_true,true_and])
  ·rw[List.drop_of_length_le (by omega),qxi] at ha
   have hltI:¬(i:Int)<(t.kids.length:Int):=by omega
   repeat'(first|refine vs_ ?_|(refine vr_ ?_<;>try simp only[hltI,go_sem,↓reduceIte])|((first|(refine cs_ ?_ ?_<;>intro hc)|refine cj_ ?_)<;>try refine ev_ ?_)|with_reducible exact ti_)
   all_goals first | (exfalso;omega) | (rw[←ha])
set_option maxRecDepth 4000

mutual
def patR:Tm->Bool
 | .mk k n s v t ks => if k = 21 then hasR (.mk k n s v t ks) true 0 0 else if k = 22 then hasR (.mk k n s v t ks) false 0 0 else if k = 23 then q1z (.mk k n s v t ks) 0 else
   if k=24 then qxa ks&&hasR (.mk k n s v t ks) true 0 ks.length else false
def qxa:List Tm->Bool
 | []=>true
 | x::r=>patR x&&qxa r
end
theorem qbvx(t:Tm):patR t=if t.kind=21 then hasR t true 0 0 else if t.kind=22 then hasR t false 0 0 else if t.kind=23 then q1z t 0 else if t.kind=24 then qxa t.kids&&hasR t true 0 t.kids.length else false:=by cases t;rw[patR];rfl
theorem qvw:∀t,qj Tryz.prog 214 [encT t] (.bool (patR t)):=by
 refine Tm.ind fun t ih=>?_
 refine qd c0fh (by simp) (by simp only[go_sem]) rfl fun hw=>?_
 obtain⟨hk1,hk2,hk3⟩:=qcc hw.1
 rw[qbvx]
 by_cases h1:t.kind=21
 ·rw[if_pos h1]
  have d1:decide (t.kind=21)=true:=decide_eq_true h1
  have hc:=qcr t true 0 0
  repeat'(first|refine vs_ ?_|(refine vr_ ?_<;>try simp only[d1,go_sem,↓reduceIte])|((first|(refine cs_ ?_ ?_<;>intro hc)|refine cj_ ?_|refine qa hc fun _=>?_)<;>try refine ev_ ?_)|with_reducible exact ti_)
 rw[if_neg h1]
 have d1:decide (t.kind=21)=false:=decide_eq_false h1
 by_cases h2:t.kind=22
 ·rw[if_pos h2]
  have d2:decide (t.kind=22)=true:=decide_eq_true h2
  have hc:=qcr t false 0 0
  repeat'(first|refine vs_ ?_|(refine vr_ ?_<;>try simp only[d1,d2,go_sem,↓reduceIte])|((first|(refine cs_ ?_ ?_<;>intro hc)|refine cj_ ?_|refine qa hc fun _=>?_)<;>try refine ev_ ?_)|with_reducible exact ti_)
 rw[if_neg h2]
 have d2:decide (t.kind=22)=false:=decide_eq_false h2
 by_cases h3:t.kind=23
 ·rw[if_pos h3]
  have d3:decide (t.kind=23)=true:=decide_eq_true h3
  have hc:=qku t 0
  repeat'(first|refine vs_ ?_|(refine vr_ ?_<;>try simp only[d1,d2,d3,go_sem,↓reduceIte])|((first|(refine cs_ ?_ ?_<;>intro hc)|refine cj_ ?_|refine qa hc fun _=>?_)<;>try refine ev_ ?_)|with_reducible exact ti_)
 rw[if_neg h3]
 have d3:decide (t.kind=23)=false:=decide_eq_false h3
 by_cases h4:t.kind=24
 ·rw[if_pos h4]
  have d4:decide (t.kind=24)=true:=decide_eq_true h4
  have hc:=qcr t true 0 t.kids.length
  repeat'(first|refine vs_ ?_|(refine vr_ ?_<;>try simp only[d1,d2,d3,d4,go_sem,↓reduceIte])|((first|(refine cs_ ?_ ?_<;>intro hc)|refine cj_ ?_)<;>try refine ev_ ?_)|with_reducible exact ti_)
  refine qk (S:=Nat) (fun i=>i≤t.kids.length∧qxa (t.kids.drop i)=qxa t.kids) (fun i=>(⟨[(1,.ptr 0 0),(3,.int .i64 i)],[]⟩,[.blk (tmc t)])) (fun i=>t.kids.length-i) ?_ fun i hi=>?_
  ·refine qf 0 [0] ⟨Nat.zero_le _,rfl⟩ rfl (by simp) ?_ ?_ ?_<;>(try refine ev_ ?_)<;>(try with_reducible exact ti_)<;>(try simp (disch:=omega) only[qb,and_true,true_and])
  ·obtain⟨hi,ha⟩:=hi
   by_cases hlt:i<t.kids.length
   ·have hg:=qbd hlt
    have hltI:(i:Int)<(t.kids.length:Int):=by omega
    have hcall:=ih _ (qbk hlt)
    rw[qf2 hlt,qxa] at ha
    generalize t.kids.getD i T0=x at *
    cases hx:patR x with
    | false =>
      rw[hx] at hcall ha
      rw[←ha]
      repeat'(first|refine vs_ ?_|(refine vr_ ?_<;>try simp (disch:=first|omega|(simp only[List.length_set,List.length_append,List.length_cons,List.length_nil];try omega)) only[hg,hltI,qb,go_sem,↓reduceIte])|((first|simp (disch:=omega) only[hg]|(refine cs_ ?_ ?_<;>intro hc)|refine cj_ ?_|refine qa hcall fun _=>?_)<;>try refine ev_ ?_)|with_reducible exact ti_)
      all_goals first | (exfalso;omega)
    | true =>
      rw[hx] at hcall ha
      repeat'(first|refine vs_ ?_|(refine vr_ ?_<;>try simp (disch:=first|omega|(simp only[List.length_set,List.length_append,List.length_cons,List.length_nil];try omega)) only[hg,hltI,qb,go_sem,↓reduceIte])|((first|simp (disch:=omega) only[hg]|(refine cs_ ?_ ?_<;>intro hc)|refine cj_ ?_|refine qa hcall fun _=>?_)<;>try refine ev_ ?_)|with_reducible exact ti_)
      all_goals try(exfalso;omega)
      refine qf (i+1) [0] ⟨⟨by omega,by rw[←ha];rfl⟩,by omega⟩ rfl (by simp) ?_ ?_ ?_<;>(try refine ev_ ?_)<;>(try with_reducible exact ti_)<;>(try simp (disch:=omega) only[qb,and_true,true_and])
      all_goals first | rfl | (rw[qo (by omega) (by omega),Int.natCast_add];rfl)
   ·rw[List.drop_of_length_le (by omega),qxa] at ha
    rw[←ha,Bool.true_and]
    have hn:¬(i:Int)<(t.kids.length:Int):=by omega
    repeat'(first|refine vs_ ?_|(refine vr_ ?_<;>try simp only[hn,go_sem,↓reduceIte])|((first|(refine cs_ ?_ ?_<;>intro hc)|refine cj_ ?_|refine qa hc fun _=>?_)<;>try refine ev_ ?_)|with_reducible exact ti_)
    all_goals first | (exfalso;omega)
 ·rw[if_neg h4]
  have d4:decide (t.kind=24)=false:=decide_eq_false h4
  repeat'(first|refine vs_ ?_|(refine vr_ ?_<;>try simp only[d1,d2,d3,d4,go_sem,↓reduceIte])|((first|(refine cs_ ?_ ?_<;>intro hc)|refine cj_ ?_)<;>try refine ev_ ?_)|with_reducible exact ti_)
set_option maxRecDepth 4000

def okRT(f:Tm->Bool)(t:Tm):Prop:=qj Tryz.prog 119 [encT t] (.bool (f t))
theorem q39{f:Tm->Bool}{t:Tm}(h:∀x∈t.kids,okRT f x):qj Tryz.prog 169 [encT t,.int .i64 0] (.bool (t.kids.all f)):=by
 refine qd c0ff (by simp) (by simp only[go_sem]) rfl fun hw=>?_
 obtain⟨hk1,hk2,hk3⟩:=qcc hw.1
 repeat'(first|refine vs_ ?_|((first|refine vr_ ?_|(refine cs_ ?_ ?_<;>intro hc)|refine cj_ ?_)<;>try refine ev_ ?_)|with_reducible exact ti_)
 refine qk (S:=Nat) (fun i=>i≤t.kids.length∧(t.kids.drop i).all f=t.kids.all f) (fun i=>(⟨[(2,.ptr 0 0),(5,.int .i64 i)],[]⟩,[.blk (tmc t)])) (fun i=>t.kids.length-i) ?_ fun i hi=>?_
 ·refine qf 0 [0] ⟨Nat.zero_le _,rfl⟩ rfl (by simp) ?_ ?_ ?_<;>(try refine ev_ ?_)<;>(try with_reducible exact ti_)<;>(try simp (disch:=omega) only[qb,and_true,true_and])
 ·obtain⟨hi,ha⟩:=hi
  by_cases hlt:i<t.kids.length
  ·have hg:=qbd hlt
   have hltI:(i:Int)<(t.kids.length:Int):=by omega
   have hcall:qj Tryz.prog 119 [encT (t.kids.getD i T0)] (.bool (f (t.kids.getD i T0))):=h _ (qbk hlt)
   rw[qf2 hlt,List.all_cons] at ha
   generalize t.kids.getD i T0=x at *
   cases hx:f x with
   | false =>
     rw[hx] at hcall ha
     rw[←ha]
     repeat'(first|refine vs_ ?_|(refine vr_ ?_<;>try simp (disch:=first|omega|(simp only[List.length_set,List.length_append,List.length_cons,List.length_nil];try omega)) only[hg,hltI,qb,go_sem,↓reduceIte])|((first|simp (disch:=omega) only[hg]|(refine cs_ ?_ ?_<;>intro hc)|refine cj_ ?_|refine qa hcall fun _=>?_)<;>try refine ev_ ?_)|with_reducible exact ti_)
     all_goals first | (exfalso;omega)
   | true =>
     rw[hx] at hcall ha
     repeat'(first|refine vs_ ?_|(refine vr_ ?_<;>try simp (disch:=first|omega|(simp only[List.length_set,List.length_append,List.length_cons,List.length_nil];try omega)) only[hg,hltI,qb,go_sem,↓reduceIte])|((first|simp (disch:=omega) only[hg]|(refine cs_ ?_ ?_<;>intro hc)|refine cj_ ?_|refine qa hcall fun _=>?_)<;>try refine ev_ ?_)|with_reducible exact ti_)
     all_goals try(exfalso;omega)
     refine qf (i+1) [0] ⟨⟨by omega,by rw[←ha];rfl⟩,by omega⟩ rfl (by simp) ?_ ?_ ?_<;>(try refine ev_ ?_)<;>(try with_reducible exact ti_)<;>(try simp (disch:=omega) only[qb,and_true,true_and])
     all_goals first | rfl | (rw[qo (by omega) (by omega),Int.natCast_add];rfl)
  ·rw[List.drop_of_length_le (by omega)] at ha
   rw[←ha]
   have hn:¬(i:Int)<(t.kids.length:Int):=by omega
   repeat'(first|refine vs_ ?_|(refine vr_ ?_<;>try simp only[hn,go_sem,↓reduceIte])|((first|(refine cs_ ?_ ?_<;>intro hc)|refine cj_ ?_)<;>try refine ev_ ?_)|with_reducible exact ti_)
   all_goals first | (exfalso;omega) | rfl
def q0y(f:Tm->Bool)(t:Tm):Bool:=decide (t.kind=11)&&!decide (t.name=[])&&decide (t.num=0)&&decide ((t.types.length:Int)=1)&&t.types.all lgR&&decide ((t.kids.length:Int)=1)&&f (t.kids.getD 0 T0)
theorem quc{f:Tm->Bool}{t:Tm}(hsm:smT t)(h:∀x∈t.kids,okRT f x):qj Tryz.prog 215 [encT t] (.bool (q0y f t)):=by
 refine qd c0fg (by simp) (by simp only[go_sem]) rfl fun hw=>?_
 obtain⟨hk1,hk2,hk3⟩:=qcc hw.1
 obtain⟨m1,m2,m3,m4⟩:=(qie t).1 hsm
 have hT:=qnb m1
 unfold q0y
 generalize t.types.all lgR=b at *
 by_cases hn:(t.kids.length:Int)=1
 ·have hg:=qbd (l:=t.kids) (i:=0) (by omega)
  have hcall:qj Tryz.prog 119 [encT (t.kids.getD 0 T0)] (.bool (f (t.kids.getD 0 T0))):=h _ (qbk (by omega))
  generalize f (t.kids.getD 0 T0)=c at *
  repeat'(first|refine vs_ ?_|(refine vr_ ?_<;>try simp only[hn,hg,go_sem,↓reduceIte])|((first|simp (disch:=omega) only[hg]|(refine cs_ ?_ ?_<;>intro hc)|refine cj_ ?_|refine qa hT fun _=>?_|refine qa hcall fun _=>?_)<;>try refine ev_ ?_)|with_reducible exact ti_)
  all_goals first | (exfalso;omega) | (clear hw h hT hcall hsm m1 m4;grind)
 ·repeat'(first|refine vs_ ?_|(refine vr_ ?_<;>try simp only[hn,go_sem,↓reduceIte])|((first|(refine cs_ ?_ ?_<;>intro hc)|refine cj_ ?_|refine qa hT fun _=>?_)<;>try refine ev_ ?_)|with_reducible exact ti_)
  all_goals first | (exfalso;omega) | (clear hw h hT hsm m1 m4;grind)
set_option maxRecDepth 4000

def altR(f:Tm->Bool)(k:Tm):Bool:=decide (k.kind=9)&&hasR k false 0 2&&patR (k.kids.getD 0 T0)&&f (k.kids.getD 1 T0)
def qb89(f:Tm->Bool)(t:Tm):Bool:=!decide ((t.kids.length:Int)<2)&&hasR t false 0 t.kids.length&&f (t.kids.getD 0 T0)&&(t.kids.drop 1).all (altR f)
theorem q71{t:Tm}{nm:Bool}{n k:Int}(h:hasR t nm n k=true):(t.kids.length:Int)=k:=by
 unfold hasR at h
 rw[Bool.and_eq_true] at h
 exact of_decide_eq_true h.2
theorem q0k{f:Tm->Bool}{t:Tm}(h:∀x∈t.kids,okRT f x)(h2:∀k∈t.kids,∀x∈k.kids,okRT f x):qj Tryz.prog 170 [encT t] (.bool (qb89 f t)):=by
 refine qd c0fe (by simp) (by simp only[go_sem]) rfl fun hw=>?_
 obtain⟨hk1,hk2,hk3⟩:=qcc hw.1
 have hH:=qcr t false 0 t.kids.length
 unfold qb89
 generalize hasR t false 0 t.kids.length=b at *
 by_cases hn:(t.kids.length:Int)<2
 ·rw[decide_eq_true hn]
  repeat'(first|refine vs_ ?_|(refine vr_ ?_<;>try simp only[hn,go_sem,↓reduceIte])|((first|(refine cs_ ?_ ?_<;>intro hc)|refine cj_ ?_)<;>try refine ev_ ?_)|with_reducible exact ti_)
 rw[decide_eq_false hn]
 have hg0:=qbd (l:=t.kids) (i:=0) (by omega)
 have hc0:qj Tryz.prog 119 [encT (t.kids.getD 0 T0)] (.bool (f (t.kids.getD 0 T0))):=h _ (qbk (by omega))
 generalize f (t.kids.getD 0 T0)=c at *
 cases b with
 | false =>
   repeat'(first|refine vs_ ?_|(refine vr_ ?_<;>try simp only[hn,go_sem,↓reduceIte])|((first|(refine cs_ ?_ ?_<;>intro hc)|refine cj_ ?_|refine qa hH fun _=>?_)<;>try refine ev_ ?_)|with_reducible exact ti_)
 | true => cases c with
   | false =>
     repeat'(first|refine vs_ ?_|(refine vr_ ?_<;>try simp only[hn,hg0,go_sem,↓reduceIte])|((first|simp (disch:=omega) only[hg0]|(refine cs_ ?_ ?_<;>intro hc)|refine cj_ ?_|refine qa hH fun _=>?_|refine qa hc0 fun _=>?_)<;>try refine ev_ ?_)|with_reducible exact ti_)
     all_goals first | (exfalso;omega)
   | true =>
     simp only[Bool.not_false,Bool.true_and]
     repeat'(first|refine vs_ ?_|(refine vr_ ?_<;>try simp only[hn,hg0,go_sem,↓reduceIte])|((first|simp (disch:=omega) only[hg0]|(refine cs_ ?_ ?_<;>intro hc)|refine cj_ ?_|refine qa hH fun _=>?_|refine qa hc0 fun _=>?_)<;>try refine ev_ ?_)|with_reducible exact ti_)
     all_goals try(exfalso;omega)
     refine qk (S:=Nat) (fun i=>1≤i∧i≤t.kids.length∧(t.kids.drop i).all (altR f)=(t.kids.drop 1).all (altR f)) (fun i=>(⟨[(1,.ptr 0 0),(3,.int .i64 i)],[]⟩,[.blk (tmc t)])) (fun i=>t.kids.length-i) ?_ fun i hi=>?_
     ·refine qf 1 [0] ⟨Nat.le_refl _,by omega,rfl⟩ rfl (by simp) ?_ ?_ ?_<;>(try refine ev_ ?_)<;>(try with_reducible exact ti_)<;>(try simp (disch:=omega) only[qb,and_true,true_and])
      all_goals first | rfl
     ·obtain⟨hi1,hi,ha⟩:=hi
      by_cases hlt:i<t.kids.length
      ·have hg:=qbd hlt
       have hltI:(i:Int)<(t.kids.length:Int):=by omega
       have hk2:=h2 _ (qbk hlt)
       rw[qf2 hlt,List.all_cons] at ha
       generalize t.kids.getD i T0=x at *
       have hX:=qcr x false 0 2
       have hdef:altR f x=(decide (x.kind=9)&&hasR x false 0 2&&patR (x.kids.getD 0 T0)&&f (x.kids.getD 1 T0)):=rfl
       have hkk:hasR x false 0 2=true->(x.kids.length:Int)=2:=q71
       by_cases c9:x.kind=9
       ·have d9:decide (x.kind=9)=true:=decide_eq_true c9
        cases hh:hasR x false 0 2 with
        | false =>
          rw[hh] at hX
          have hf:altR f x=false:=by rw[hdef,hh];simp
          rw[hf] at ha
          rw[←ha]
          repeat'(first|refine vs_ ?_|(refine vr_ ?_<;>try simp (disch:=first|omega|(simp only[List.length_set,List.length_append,List.length_cons,List.length_nil];try omega)) only[hg,hltI,d9,qb,go_sem,↓reduceIte])|((first|simp (disch:=omega) only[hg]|(refine cs_ ?_ ?_<;>intro hc)|refine cj_ ?_|refine qa hX fun _=>?_)<;>try refine ev_ ?_)|with_reducible exact ti_)
          all_goals first | (exfalso;omega)
        | true =>
          rw[hh] at hX
          have hl:=hkk hh
          have g0:=qbd (l:=x.kids) (i:=0) (by omega)
          have g1:=qbd (l:=x.kids) (i:=1) (by omega)
          have p0:=qvw (x.kids.getD 0 T0)
          have p1:qj Tryz.prog 119 [encT (x.kids.getD 1 T0)] (.bool (f (x.kids.getD 1 T0))):=hk2 _ (qbk (by omega))
          have hf:altR f x=(patR (x.kids.getD 0 T0)&&f (x.kids.getD 1 T0)):=by rw[hdef,hh,d9];simp
          generalize patR (x.kids.getD 0 T0)=u at *
          generalize f (x.kids.getD 1 T0)=v at *
          rw[hf] at ha
          cases u with
          | false =>
            rw[←ha]
            repeat'(first|refine vs_ ?_|(refine vr_ ?_<;>try simp (disch:=first|omega|(simp only[List.length_set,List.length_append,List.length_cons,List.length_nil];try omega)) only[hg,hltI,d9,g0,qb,go_sem,↓reduceIte])|((first|simp (disch:=omega) only[hg]|simp (disch:=omega) only[g0]|(refine cs_ ?_ ?_<;>intro hc)|refine cj_ ?_|refine qa hX fun _=>?_|refine qa p0 fun _=>?_)<;>try refine ev_ ?_)|with_reducible exact ti_)
            all_goals first | (exfalso;omega)
          | true => cases v with
            | false =>
              rw[←ha]
              repeat'(first|refine vs_ ?_|(refine vr_ ?_<;>try simp (disch:=first|omega|(simp only[List.length_set,List.length_append,List.length_cons,List.length_nil];try omega)) only[hg,hltI,d9,g0,g1,qb,go_sem,↓reduceIte])|((first|simp (disch:=omega) only[hg]|simp (disch:=omega) only[g0]|simp (disch:=omega) only[g1]|(refine cs_ ?_ ?_<;>intro hc)|refine cj_ ?_|refine qa hX fun _=>?_|refine qa p0 fun _=>?_|refine qa p1 fun _=>?_)<;>try refine ev_ ?_)|with_reducible exact ti_)
              all_goals first | (exfalso;omega)
            | true =>
              repeat'(first|refine vs_ ?_|(refine vr_ ?_<;>try simp (disch:=first|omega|(simp only[List.length_set,List.length_append,List.length_cons,List.length_nil];try omega)) only[hg,hltI,d9,g0,g1,qb,go_sem,↓reduceIte])|((first|simp (disch:=omega) only[hg]|simp (disch:=omega) only[g0]|simp (disch:=omega) only[g1]|(refine cs_ ?_ ?_<;>intro hc)|refine cj_ ?_|refine qa hX fun _=>?_|refine qa p0 fun _=>?_|refine qa p1 fun _=>?_)<;>try refine ev_ ?_)|with_reducible exact ti_)
              all_goals try(exfalso;omega)
              refine qf (i+1) [0] ⟨⟨by omega,by omega,by rw[←ha];rfl⟩,by omega⟩ rfl (by simp) ?_ ?_ ?_<;>(try refine ev_ ?_)<;>(try with_reducible exact ti_)<;>(try simp (disch:=omega) only[qb,and_true,true_and])
              all_goals first | rfl | (rw[qo (by omega) (by omega),Int.natCast_add];rfl)
       ·have d9:decide (x.kind=9)=false:=decide_eq_false c9
        have hf:altR f x=false:=by rw[hdef,d9];simp
        rw[hf] at ha
        rw[←ha]
        repeat'(first|refine vs_ ?_|(refine vr_ ?_<;>try simp (disch:=first|omega|(simp only[List.length_set,List.length_append,List.length_cons,List.length_nil];try omega)) only[hg,hltI,d9,qb,go_sem,↓reduceIte])|((first|simp (disch:=omega) only[hg]|(refine cs_ ?_ ?_<;>intro hc)|refine cj_ ?_)<;>try refine ev_ ?_)|with_reducible exact ti_)
        all_goals first | (exfalso;omega)
      ·rw[List.drop_of_length_le (by omega)] at ha
       rw[←ha]
       have hnn:¬(i:Int)<(t.kids.length:Int):=by omega
       repeat'(first|refine vs_ ?_|(refine vr_ ?_<;>try simp only[hnn,go_sem,↓reduceIte])|((first|(refine cs_ ?_ ?_<;>intro hc)|refine cj_ ?_)<;>try refine ev_ ?_)|with_reducible exact ti_)
       all_goals first | (exfalso;omega) | rfl
set_option maxRecDepth 4000

def letR(f:Tm->Bool)(t:Tm):Bool:=!decide (t.kids.length=0)&&hasR t false 0 t.kids.length&&(t.kids.take (t.kids.length-1)).all (q0y f)&&f (t.kids.getD (t.kids.length-1) T0)
theorem q9a{f:Tm->Bool}{t:Tm}(hsm:smT t)(h:∀x∈t.kids,okRT f x)(h2:∀k∈t.kids,∀x∈k.kids,okRT f x):qj Tryz.prog 171 [encT t] (.bool (letR f t)):=by
 refine qd c0fd (by simp) (by simp only[go_sem]) rfl fun hw=>?_
 obtain⟨hk1,hk2,hk3⟩:=qcc hw.1
 have hml:maxLen=9223372036854775807:=rfl
 have hks:=qjc ((qie t).1 hsm).2.2.2
 have hH:=qcr t false 0 t.kids.length
 unfold letR
 generalize hasR t false 0 t.kids.length=b at *
 by_cases hn:t.kids.length=0
 ·rw[decide_eq_true hn]
  have hwr:IntKind.i64.wrap ((t.kids.length:Int)-1) = -1:=by rw[hn];rfl
  repeat'(first|refine vs_ ?_|(refine vr_ ?_<;>try simp only[hwr,Int.reduceLT,Int.reduceNeg,decide_true,decide_false,Bool.false_eq_true,go_sem,↓reduceIte])|((first|(refine cs_ ?_ ?_<;>intro hc)|refine cj_ ?_)<;>try refine ev_ ?_)|with_reducible exact ti_)
  all_goals first | (exfalso;omega)
 rw[decide_eq_false hn]
 have hwr:IntKind.i64.wrap ((t.kids.length:Int)-1)=((t.kids.length-1:Nat):Int):=by rw[qo (by omega) (by omega)];omega
 have hwr2:IntKind.i64.wrap (((t.kids.length-1:Nat):Int)+1)=(t.kids.length:Int):=by rw[qo (by omega) (by omega)];omega
 have hpos:¬((t.kids.length-1:Nat):Int)<0:=by omega
 have hgl:=qbd (l:=t.kids) (i:=t.kids.length-1) (by omega)
 have hcl:qj Tryz.prog 119 [encT (t.kids.getD (t.kids.length-1) T0)] (.bool (f (t.kids.getD (t.kids.length-1) T0))):=h _ (qbk (by omega))
 cases b with
 | false =>
   repeat'(first|refine vs_ ?_|(refine vr_ ?_<;>try simp only[hwr,hwr2,hpos,go_sem,↓reduceIte])|((first|(refine cs_ ?_ ?_<;>intro hc)|refine cj_ ?_|refine qa hH fun _=>?_)<;>try refine ev_ ?_)|with_reducible exact ti_)
   all_goals first | (exfalso;omega)
 | true =>
   simp only[Bool.not_false,Bool.true_and]
   obtain⟨m,hm⟩:∃m,t.kids.length-1=m:=⟨_,rfl⟩
   have hml2:m<t.kids.length:=by omega
   rw[hm] at hwr hwr2 hpos hgl hcl ⊢
   repeat'(first|refine vs_ ?_|(refine vr_ ?_<;>try simp only[hwr,hwr2,hpos,go_sem,↓reduceIte])|((first|(refine cs_ ?_ ?_<;>intro hc)|refine cj_ ?_|refine qa hH fun _=>?_)<;>try refine ev_ ?_)|with_reducible exact ti_)
   all_goals try(exfalso;omega)
   refine qk (S:=Nat) (fun i=>i≤m∧(t.kids.take i).all (q0y f)=true) (fun i=>(⟨[(1,.ptr 0 0),(3,.int .i64 m),(4,.int .i64 i)],[]⟩,[.blk (tmc t)])) (fun i=>m-i) ?_ fun i hi=>?_
   ·refine qf 0 [0] ⟨Nat.zero_le _,rfl⟩ rfl (by simp) ?_ ?_ ?_<;>(try refine ev_ ?_)<;>(try with_reducible exact ti_)<;>(try simp (disch:=omega) only[qb,and_true,true_and])
    all_goals first | rfl
   ·obtain⟨hi,ha⟩:=hi
    by_cases hlt:i<m
    ·have hg:=qbd (l:=t.kids) (i:=i) (by omega)
     have hltI:(i:Int)<(m:Int):=by omega
     have hmem:=qbk (l:=t.kids) (i:=i) (by omega)
     have hcall:=quc (hks _ hmem) (h2 _ hmem)
     have hsn:t.kids.take (i+1)=t.kids.take i++[t.kids.getD i T0]:=by rw[List.take_add_one,List.getD_eq_getElem?_getD,List.getElem?_eq_getElem (by omega)];rfl
     have hin:t.kids.getD i T0∈t.kids.take m:=by
      rw[List.getD_eq_getElem?_getD,List.getElem?_eq_getElem (by omega)]
      exact List.mem_take_iff_getElem.2 ⟨i,by omega,rfl⟩
     generalize t.kids.getD i T0=x at *
     cases hx:q0y f x with
     | false =>
       rw[hx] at hcall
       have hf:(t.kids.take m).all (q0y f)=false:=by rw[List.all_eq_false];exact⟨x,hin,by rw[hx];simp⟩
       rw[hf,Bool.false_and]
       repeat'(first|refine vs_ ?_|(refine vr_ ?_<;>try simp (disch:=first|omega|(simp only[List.length_set,List.length_append,List.length_cons,List.length_nil];try omega)) only[hg,hltI,qb,go_sem,↓reduceIte])|((first|simp (disch:=omega) only[hg]|(refine cs_ ?_ ?_<;>intro hc)|refine cj_ ?_|refine qa hcall fun _=>?_)<;>try refine ev_ ?_)|with_reducible exact ti_)
       all_goals first | (exfalso;omega)
     | true =>
       rw[hx] at hcall
       repeat'(first|refine vs_ ?_|(refine vr_ ?_<;>try simp (disch:=first|omega|(simp only[List.length_set,List.length_append,List.length_cons,List.length_nil];try omega)) only[hg,hltI,qb,go_sem,↓reduceIte])|((first|simp (disch:=omega) only[hg]|(refine cs_ ?_ ?_<;>intro hc)|refine cj_ ?_|refine qa hcall fun _=>?_)<;>try refine ev_ ?_)|with_reducible exact ti_)
       all_goals try(exfalso;omega)
       refine qf (i+1) [0] ⟨⟨by omega,by rw[hsn,List.all_append,ha];simp[hx]⟩,by omega⟩ rfl (by simp) ?_ ?_ ?_<;>(try refine ev_ ?_)<;>(try with_reducible exact ti_)<;>(try simp (disch:=omega) only[qb,and_true,true_and])
       all_goals first | rfl | (rw[qo (by omega) (by omega),Int.natCast_add];rfl)
    ·have hie:i=m:=by omega
     subst hie
     rw[ha,Bool.true_and]
     have hnn:¬(i:Int)<(i:Int):=by omega
     generalize f (t.kids.getD i T0)=c at *
     repeat'(first|refine vs_ ?_|(refine vr_ ?_<;>try simp only[hnn,hgl,go_sem,↓reduceIte])|((first|simp (disch:=omega) only[hgl]|(refine cs_ ?_ ?_<;>intro hc)|refine cj_ ?_|refine qa hcl fun _=>?_)<;>try refine ev_ ?_)|with_reducible exact ti_)
     all_goals first | (exfalso;omega)
set_option maxRecDepth 4000

def stpR(f:Tm->Bool)(t:Tm):Bool :=
 if t.kind=1 then hasR t true 0 0 else
 if t.kind=2 then q1z t 0 else
 if t.kind=14 then q1z t 0 else
 if t.kind=3 then hasR t true 1 1&&t.types.all lgR&&t.kids.all f else
 if t.kind=4 then hasR t false 0 2&&t.kids.all f else
 if t.kind=5 then decide (t.name=[])&&decide (t.num=0)&&decide ((t.types.length:Int)=0)&&decide ((t.kids.length:Int)=1)&&t.kids.all f else
 if t.kind=6 then hasR t false t.types.length 1&&t.types.all lgR&&t.kids.all f else
 if t.kind=7 then hasR t true t.types.length 0&&t.types.all lgR else
 if t.kind=8 then qb89 f t else
 if t.kind=10 then letR f t else
 if t.kind=12 then hasR t true 1 t.kids.length&&t.types.all lgR&&t.kids.all f else
 if t.kind=13 then !decide (t.name=[])&&!decide (t.num<0)&&decide ((t.vars.length:Int)=0)&&decide ((t.types.length:Int)=0)&&decide ((t.kids.length:Int)=1)&&t.kids.all f else
 false
set_option maxHeartbeats 4000000 in
theorem qw3{f:Tm->Bool}{t:Tm}(hsm:smT t)(h:∀x∈t.kids,okRT f x)(h2:∀k∈t.kids,∀x∈k.kids,okRT f x):okRT (stpR f) t:=by
 unfold okRT
 refine qd c0fc (by simp) (by simp only[go_sem]) rfl fun hw=>?_
 obtain⟨hk1,hk2,hk3⟩:=qcc hw.1
 have hks:=qjc ((qie t).1 hsm).2.2.2
 have m1:=((qie t).1 hsm).1
 have hT:=qnb m1
 have hA:=q39 h
 unfold stpR
 by_cases c1:t.kind=1
 ·rw[if_pos c1]
  have e1:decide (t.kind=1)=true:=decide_eq_true c1
  repeat'(first|refine vs_ ?_|(refine vr_ ?_<;>try simp only[e1,go_sem,↓reduceIte])|((first|(refine cs_ ?_ ?_<;>intro hc)|refine cj_ ?_|fail|refine qa (qcr t true 0 0) fun _=>?_)<;>try refine ev_ ?_)|with_reducible exact ti_)
  all_goals first | (exfalso;omega) | (clear hw h h2 hT hA hsm hks m1;grind)
 rw[if_neg c1]
 have e1:decide (t.kind=1)=false:=decide_eq_false c1
 by_cases c2:t.kind=2
 ·rw[if_pos c2]
  have e2:decide (t.kind=2)=true:=decide_eq_true c2
  repeat'(first|refine vs_ ?_|(refine vr_ ?_<;>try simp only[e1,e2,go_sem,↓reduceIte])|((first|(refine cs_ ?_ ?_<;>intro hc)|refine cj_ ?_|fail|refine qa (qku t 0) fun _=>?_)<;>try refine ev_ ?_)|with_reducible exact ti_)
  all_goals first | (exfalso;omega) | (clear hw h h2 hT hA hsm hks m1;grind)
 rw[if_neg c2]
 have e2:decide (t.kind=2)=false:=decide_eq_false c2
 by_cases c14:t.kind=14
 ·rw[if_pos c14]
  have e14:decide (t.kind=14)=true:=decide_eq_true c14
  repeat'(first|refine vs_ ?_|(refine vr_ ?_<;>try simp only[e1,e2,e14,go_sem,↓reduceIte])|((first|(refine cs_ ?_ ?_<;>intro hc)|refine cj_ ?_|fail|refine qa (qku t 0) fun _=>?_)<;>try refine ev_ ?_)|with_reducible exact ti_)
  all_goals first | (exfalso;omega) | (clear hw h h2 hT hA hsm hks m1;grind)
 rw[if_neg c14]
 have e14:decide (t.kind=14)=false:=decide_eq_false c14
 by_cases c3:t.kind=3
 ·rw[if_pos c3]
  have e3:decide (t.kind=3)=true:=decide_eq_true c3
  repeat'(first|refine vs_ ?_|(refine vr_ ?_<;>try simp only[e1,e2,e14,e3,go_sem,↓reduceIte])|((first|(refine cs_ ?_ ?_<;>intro hc)|refine cj_ ?_|fail|refine qa (qcr t true 1 1) fun _=>?_|refine qa hT fun _=>?_|refine qa hA fun _=>?_)<;>try refine ev_ ?_)|with_reducible exact ti_)
  all_goals first | (exfalso;omega) | (clear hw h h2 hT hA hsm hks m1;grind)
 rw[if_neg c3]
 have e3:decide (t.kind=3)=false:=decide_eq_false c3
 by_cases c4:t.kind=4
 ·rw[if_pos c4]
  have e4:decide (t.kind=4)=true:=decide_eq_true c4
  repeat'(first|refine vs_ ?_|(refine vr_ ?_<;>try simp only[e1,e2,e14,e3,e4,go_sem,↓reduceIte])|((first|(refine cs_ ?_ ?_<;>intro hc)|refine cj_ ?_|fail|refine qa (qcr t false 0 2) fun _=>?_|refine qa hA fun _=>?_)<;>try refine ev_ ?_)|with_reducible exact ti_)
  all_goals first | (exfalso;omega) | (clear hw h h2 hT hA hsm hks m1;grind)
 rw[if_neg c4]
 have e4:decide (t.kind=4)=false:=decide_eq_false c4
 by_cases c5:t.kind=5
 ·rw[if_pos c5]
  have e5:decide (t.kind=5)=true:=decide_eq_true c5
  repeat'(first|refine vs_ ?_|(refine vr_ ?_<;>try simp only[e1,e2,e14,e3,e4,e5,go_sem,↓reduceIte])|((first|(refine cs_ ?_ ?_<;>intro hc)|refine cj_ ?_|fail|refine qa hA fun _=>?_)<;>try refine ev_ ?_)|with_reducible exact ti_)
  all_goals first | (exfalso;omega) | (clear hw h h2 hT hA hsm hks m1;grind)
 rw[if_neg c5]
 have e5:decide (t.kind=5)=false:=decide_eq_false c5
 by_cases c6:t.kind=6
 ·rw[if_pos c6]
  have e6:decide (t.kind=6)=true:=decide_eq_true c6
  repeat'(first|refine vs_ ?_|(refine vr_ ?_<;>try simp only[e1,e2,e14,e3,e4,e5,e6,go_sem,↓reduceIte])|((first|(refine cs_ ?_ ?_<;>intro hc)|refine cj_ ?_|fail|refine qa (qcr t false t.types.length 1) fun _=>?_|refine qa hT fun _=>?_|refine qa hA fun _=>?_)<;>try refine ev_ ?_)|with_reducible exact ti_)
  all_goals first | (exfalso;omega) | (clear hw h h2 hT hA hsm hks m1;grind)
 rw[if_neg c6]
 have e6:decide (t.kind=6)=false:=decide_eq_false c6
 by_cases c7:t.kind=7
 ·rw[if_pos c7]
  have e7:decide (t.kind=7)=true:=decide_eq_true c7
  repeat'(first|refine vs_ ?_|(refine vr_ ?_<;>try simp only[e1,e2,e14,e3,e4,e5,e6,e7,go_sem,↓reduceIte])|((first|(refine cs_ ?_ ?_<;>intro hc)|refine cj_ ?_|fail|refine qa (qcr t true t.types.length 0) fun _=>?_|refine qa hT fun _=>?_)<;>try refine ev_ ?_)|with_reducible exact ti_)
  all_goals first | (exfalso;omega) | (clear hw h h2 hT hA hsm hks m1;grind)
 rw[if_neg c7]
 have e7:decide (t.kind=7)=false:=decide_eq_false c7
 by_cases c8:t.kind=8
 ·rw[if_pos c8]
  have e8:decide (t.kind=8)=true:=decide_eq_true c8
  repeat'(first|refine vs_ ?_|(refine vr_ ?_<;>try simp only[e1,e2,e14,e3,e4,e5,e6,e7,e8,go_sem,↓reduceIte])|((first|(refine cs_ ?_ ?_<;>intro hc)|refine cj_ ?_|fail|refine qa (q0k h h2) fun _=>?_)<;>try refine ev_ ?_)|with_reducible exact ti_)
  all_goals first | (exfalso;omega) | (clear hw h h2 hT hA hsm hks m1;grind)
 rw[if_neg c8]
 have e8:decide (t.kind=8)=false:=decide_eq_false c8
 by_cases c10:t.kind=10
 ·rw[if_pos c10]
  have e10:decide (t.kind=10)=true:=decide_eq_true c10
  repeat'(first|refine vs_ ?_|(refine vr_ ?_<;>try simp only[e1,e2,e14,e3,e4,e5,e6,e7,e8,e10,go_sem,↓reduceIte])|((first|(refine cs_ ?_ ?_<;>intro hc)|refine cj_ ?_|fail|refine qa (q9a hsm h h2) fun _=>?_)<;>try refine ev_ ?_)|with_reducible exact ti_)
  all_goals first | (exfalso;omega) | (clear hw h h2 hT hA hsm hks m1;grind)
 rw[if_neg c10]
 have e10:decide (t.kind=10)=false:=decide_eq_false c10
 by_cases c12:t.kind=12
 ·rw[if_pos c12]
  have e12:decide (t.kind=12)=true:=decide_eq_true c12
  repeat'(first|refine vs_ ?_|(refine vr_ ?_<;>try simp only[e1,e2,e14,e3,e4,e5,e6,e7,e8,e10,e12,go_sem,↓reduceIte])|((first|(refine cs_ ?_ ?_<;>intro hc)|refine cj_ ?_|fail|refine qa (qcr t true 1 t.kids.length) fun _=>?_|refine qa hT fun _=>?_|refine qa hA fun _=>?_)<;>try refine ev_ ?_)|with_reducible exact ti_)
  all_goals first | (exfalso;omega) | (clear hw h h2 hT hA hsm hks m1;grind)
 rw[if_neg c12]
 have e12:decide (t.kind=12)=false:=decide_eq_false c12
 by_cases c13:t.kind=13
 ·rw[if_pos c13]
  have e13:decide (t.kind=13)=true:=decide_eq_true c13
  repeat'(first|refine vs_ ?_|(refine vr_ ?_<;>try simp only[e1,e2,e14,e3,e4,e5,e6,e7,e8,e10,e12,e13,go_sem,↓reduceIte])|((first|(refine cs_ ?_ ?_<;>intro hc)|refine cj_ ?_|fail|refine qa hA fun _=>?_)<;>try refine ev_ ?_)|with_reducible exact ti_)
  all_goals first | (exfalso;omega) | (clear hw h h2 hT hA hsm hks m1;grind)
 rw[if_neg c13]
 have e13:decide (t.kind=13)=false:=decide_eq_false c13
 repeat'(first|refine vs_ ?_|(refine vr_ ?_<;>try simp only[e1,e2,e14,e3,e4,e5,e6,e7,e8,e10,e12,e13,go_sem,↓reduceIte])|((first|(refine cs_ ?_ ?_<;>intro hc)|refine cj_ ?_)<;>try refine ev_ ?_)|with_reducible exact ti_)
set_option maxRecDepth 4000

def isRF:Nat->Tm->Bool
 | 0=>fun _=>false
 | n+1=>stpR (isRF n)
theorem qsm:∀n t,smT t->dpT t≤n->okRT (isRF n) t:=by
 intro n
 induction n with
 | zero=>intro t _ h;have:=q66 t;omega
 | succ n ih =>
   intro t hsm hd
   have hks:=qjc ((qie t).1 hsm).2.2.2
   exact qw3 hsm (fun x hx=>ih x (hks x hx) (by have:=qkc hx;omega)) (fun k hk x hx=>ih x (qjc ((qie k).1 (hks k hk)).2.2.2 x hx) (by have:=qkc hk;have:=qkc hx;omega))
def lgTR(t:Tm):Bool:=decide (szTR t≤4096)&&decide (lvTR t≤400)&&isRF (dpT t) t
theorem qim{t:Tm}(hsm:smT t):qj Tryz.prog 77 [encT t] (.bool (lgTR t)):=by
 refine qd c0fb (by simp) (by simp only[go_sem]) rfl fun hw=>?_
 have h1:=qo5 t
 have h2:=qvb t
 have h3:qj Tryz.prog 119 [encT t] (.bool (isRF (dpT t) t)):=qsm _ t hsm (Nat.le_refl _)
 unfold lgTR
 generalize szTR t=a at *
 generalize lvTR t=b at *
 generalize isRF (dpT t) t=c at *
 by_cases q1:a≤4096
 ·by_cases q2:b≤400
  ·rw[decide_eq_true q1,decide_eq_true q2]
   repeat'(first|refine vs_ ?_|(refine vr_ ?_<;>try simp only[q1,q2,go_sem,↓reduceIte])|((first|(refine cs_ ?_ ?_<;>intro hc)|refine cj_ ?_|fail|refine qa h1 fun _=>?_|refine qa h2 fun _=>?_|refine qa h3 fun _=>?_)<;>try refine ev_ ?_)|with_reducible exact ti_)
   all_goals first | (exfalso;omega)
  ·rw[decide_eq_true q1,decide_eq_false q2]
   repeat'(first|refine vs_ ?_|(refine vr_ ?_<;>try simp only[q1,q2,go_sem,↓reduceIte])|((first|(refine cs_ ?_ ?_<;>intro hc)|refine cj_ ?_|fail|refine qa h1 fun _=>?_|refine qa h2 fun _=>?_)<;>try refine ev_ ?_)|with_reducible exact ti_)
   all_goals first | (exfalso;omega)
 ·rw[decide_eq_false q1]
  repeat'(first|refine vs_ ?_|(refine vr_ ?_<;>try simp only[q1,go_sem,↓reduceIte])|((first|(refine cs_ ?_ ?_<;>intro hc)|refine cj_ ?_|fail|refine qa h1 fun _=>?_)<;>try refine ev_ ?_)|with_reducible exact ti_)
  all_goals first | (exfalso;omega)
set_option maxRecDepth 4000

def F00:Int×Tm:=(0,T0)
theorem q5h{l:List (Int×Tm)}{i:Nat}(h:i<l.length):(qh5 l).getD i .junk=encF (l.getD i F00):=by
 rw[qh5,List.getD_eq_getElem?_getD,List.getElem?_map,List.getElem?_eq_getElem h,List.getD_eq_getElem?_getD,List.getElem?_eq_getElem h];rfl
theorem qcon{l:List (Int×Tm)}{i:Nat}(h:i<l.length):l.drop i=l.getD i F00::l.drop (i+1):=by
 rw[List.drop_eq_getElem_cons h,List.getD_eq_getElem?_getD,List.getElem?_eq_getElem h];rfl
theorem q1o(p:Int×Tm):(encF p).cells=[.int .i64 p.1,.int .i64 p.2.kind,.int .i64 p.2.num,.str p.2.name,.sl 1 (ints p.2.vars),.sl 3 (qg p.2.types),.sl 6 (qbn p.2.kids)]:=rfl
theorem qbbv(p:Int×Tm):(encF p).isAgg=true:=rfl
attribute [go_sem] q1o qbbv
def filA:Option Tm->AV
 | some u=>.tup [encT u,.bool true]
 | none=>.tup [encT T0,.bool false]
def filG:List (Int×Tm)->Int->Option Tm
 | [],_=>none
 | p::r,k=>if p.1=k then some p.2 else filG r k
theorem qb3n(o:Option Tm):(filA o).bd 0=true:=by cases o<;>simp only[filA,AV.bd,AV.bds,qb5,Bool.and_true]
theorem qlb(R:RS)(h:Int):qj Tryz.prog 79 [qby R,.int .i64 h] (filA (filG R.fills h)):=by
 refine qd c0fa (by simp) (by simp only[go_sem]) (qb3n _) fun hw=>?_
 have hz:AV.agg [.int .i64 0,.int .i64 0,.str [],.sl 1 [],.sl 3 [],.sl 6 []]=encT T0:=qj5
 have hl:R.fills.length≤maxLen:=by
  have h1:=hw.1
  obtain⟨_,_,_,_,_,_,h7,_⟩:=h1
  have:=h7.1
  rwa [qoa] at this
 repeat'(first|refine vs_ ?_|((first|refine vr_ ?_|(refine cs_ ?_ ?_<;>intro hc)|refine cj_ ?_)<;>try refine ev_ ?_)|with_reducible exact ti_)
 refine qk (S:=Nat) (fun i=>i≤R.fills.length∧filG (R.fills.drop i) h=filG R.fills h) (fun i=>(⟨[(1,.int .i64 h),(2,.ptr 0 0),(4,.ptr 1 0),(6,.int .i64 i)],[]⟩,[.blk (rsc R),.blk [.int .i64 0,.int .i64 0,.str [],.nils,.nils,.nils]])) (fun i=>R.fills.length-i) ?_ fun i hi=>?_
 ·refine qf 0 [0,1] ⟨Nat.zero_le _,rfl⟩ rfl (by simp) ?_ ?_ ?_<;>(try refine ev_ ?_)<;>(try with_reducible exact ti_)<;>(try simp (disch:=omega) only[qb,and_true,true_and])
 ·obtain⟨hi,ha⟩:=hi
  by_cases hlt:i<R.fills.length
  ·have hg:=q5h hlt
   have hltI:(i:Int)<(R.fills.length:Int):=by omega
   rw[qcon hlt,filG] at ha
   generalize R.fills.getD i F00=x at *
   by_cases hx:x.1=h
   ·rw[if_pos hx] at ha
    rw[←ha]
    have htf:AV.agg [.int .i64 x.2.kind,.int .i64 x.2.num,.str x.2.name,.sl 1 (ints x.2.vars),.sl 3 (qg x.2.types),.sl 6 (qbn x.2.kids)]=encT x.2:=qcj _
    repeat'(first|refine vs_ ?_|(refine vr_ ?_<;>try simp only[hg,hltI,hx,htf,go_sem,↓reduceIte])|((first|simp (disch:=omega) only[hg]|(refine cs_ ?_ ?_<;>intro hc)|refine cj_ ?_)<;>try refine ev_ ?_)|with_reducible exact ti_)
    all_goals first | (exfalso;omega) | rfl
   ·rw[if_neg hx] at ha
    repeat'(first|refine vs_ ?_|(refine vr_ ?_<;>try simp (disch:=first|omega|(simp only[List.length_set,List.length_append,List.length_cons,List.length_nil];try omega)) only[hg,hltI,hx,qb,go_sem,↓reduceIte])|((first|simp (disch:=omega) only[hg]|(refine cs_ ?_ ?_<;>intro hc)|refine cj_ ?_)<;>try refine ev_ ?_)|with_reducible exact ti_)
    all_goals try(exfalso;omega)
    refine qf (i+1) [0,1] ⟨⟨by omega,ha⟩,by omega⟩ rfl (by simp) ?_ ?_ ?_<;>(try refine ev_ ?_)<;>(try with_reducible exact ti_)<;>(try simp (disch:=omega) only[qb,and_true,true_and])
    all_goals first | rfl | (rw[qo (by omega) (by omega),Int.natCast_add];rfl)
  ·rw[List.drop_of_length_le (by omega),filG] at ha
   rw[←ha]
   have hn:¬(i:Int)<(R.fills.length:Int):=by omega
   repeat'(first|refine vs_ ?_|(refine vr_ ?_<;>try simp only[hn,hz,go_sem,↓reduceIte])|((first|(refine cs_ ?_ ?_<;>intro hc)|refine cj_ ?_)<;>try refine ev_ ?_)|with_reducible exact ti_)
   all_goals first | (exfalso;omega) | rfl
set_option maxRecDepth 4000

def puSt(R:RS)(t:Ty)(i:Nat):AF×List Ent:=(⟨[(2,.ptr 0 0),(3,.ptr 1 0),(4,.ptr 2 0),(5,accV 3 (ints (lsV (R.known.take i)))),(6,accV 4 (qg (lsT (R.known.take i)))),(7,.int .i64 i)],[]⟩,[.blk (rsc R),.blk (yc t),.blk [.str [],.int .i64 0,.nils]]++accE 1 (ints (lsV (R.known.take i)))++accE 3 (qg (lsT (R.known.take i))))
set_option maxHeartbeats 1000000 in
theorem q5c{R:RS}{t:Ty}(hl:R.known.length≤100000)(hb:szY t≤1000000):qj Tryz.prog 173 [qby R,encY t] (encY (putT (lsV R.known) (lsT R.known) t)):=by
 refine qd c0ez (by simp) (by simp only[go_sem]) (qx 0 _) fun hw=>?_
 have hP:=q67 (lsV R.known) (lsT R.known) t hb
 repeat'(first|refine vs_ ?_|((first|refine vr_ ?_|(refine cs_ ?_ ?_<;>intro hc)|refine cj_ ?_)<;>try refine ev_ ?_)|with_reducible exact ti_)
 refine qk (S:=Nat) (fun i=>i≤R.known.length) (puSt R t) (fun i=>R.known.length-i) ?_ fun i hi=>?_
 ·refine qf 0 [0,1,2] (Nat.zero_le _) rfl (by simp) ?_ ?_ ?_<;>simp only[puSt,List.take_zero,lsV,lsT,List.map_nil,ints,qg,qq,qw,List.append_nil]<;>(try refine ev_ ?_)<;>(try with_reducible exact ti_)<;>(try simp (disch:=omega) only[qb,and_true,true_and])
 ·unfold puSt
  have hvl:(ints (lsV (R.known.take i))).length=i:=by rw[qcm,lsV,List.length_map,List.length_take];omega
  have htl:(qg (lsT (R.known.take i))).length=i:=by rw[q8,lsT,List.length_map,List.length_take];omega
  have hvl2:(lsV (R.known.take i)).length=i:=by rw[←qcm];exact hvl
  have htl2:(lsT (R.known.take i)).length=i:=by rw[←q8];exact htl
  by_cases hlt:i<R.known.length
  ·have hg:=qu hlt
   have hsn:=qkq hlt
   have e1:ints (lsV (R.known.take i))++[.int .i64 (R.known.getD i R0).v]=ints (lsV (R.known.take (i+1))):=by rw[hsn,qud];simp only[lsV,List.map_append,List.map_cons,List.map_nil]
   have e2:qg (lsT (R.known.take i))++[encY (R.known.getD i R0).ty]=qg (lsT (R.known.take (i+1))):=by rw[hsn,qe4];simp only[lsT,List.map_append,List.map_cons,List.map_nil]
   have c1:qbj (i+1) 8=True:=eq_true (by unfold qbj;omega)
   have c2:qbj (i+1) 48=True:=eq_true (by unfold qbj;omega)
   have hif:(i:Int)<(R.known.length:Int):=by omega
   generalize R.known.getD i R0=x at *
   have hxf:AV.agg [.str x.ty.con,.int .i64 x.ty.var,.sl 3 (qg x.ty.args)]=encY x.ty:=qbe _
   by_cases h0:i=0
   ·subst h0
    have n1:ints (lsV (R.known.take 0))=[]:=rfl
    have n2:qg (lsT (R.known.take 0))=[]:=rfl
    rw[n1] at e1
    rw[n2] at e2
    rw[n1,n2]
    simp only[qq,qw,List.append_nil]
    have hif0:(0:Int)<(R.known.length:Int):=by omega
    repeat'(first|refine vs_ ?_|(refine vr_ ?_<;>try simp (disch:=first|omega|(simp only[List.length_set,List.length_append,List.length_cons,List.length_nil];try omega)) only[hg,hif0,hxf,qb,c1,c2,go_sem,↓reduceIte])|((first|simp (disch:=omega) only[hg]|(refine cs_ ?_ ?_<;>intro hc)|refine cj_ ?_)<;>try refine ev_ ?_)|with_reducible exact ti_)
    refine qf 1 [0,1,2,3,4] ⟨by omega,by omega⟩ rfl (by simp) ?_ ?_ ?_<;>simp only[puSt,←e1,←e2,List.nil_append,qdb,qes]<;>(try refine ev_ ?_)<;>(try with_reducible exact ti_)<;>(try simp (disch:=omega) only[qb,and_true,true_and])
    all_goals rfl
   ·have n1:ints (lsV (R.known.take i))≠[]:=fun h=>h0 (by rw[←hvl,h];rfl)
    have n2:qg (lsT (R.known.take i))≠[]:=fun h=>h0 (by rw[←htl,h];rfl)
    simp only[q9 n1,qbc n1,q9 n2,qbc n2,hvl,htl]
    repeat'(first|refine vs_ ?_|(refine vr_ ?_<;>try simp (disch:=first|omega|(simp only[List.length_set,List.length_append,List.length_cons,List.length_nil];try omega)) only[hg,hif,hxf,hvl,htl,hvl2,htl2,qb,c1,c2,go_sem,↓reduceIte])|((first|simp (disch:=omega) only[hg]|(refine cs_ ?_ ?_<;>intro hc)|refine cj_ ?_)<;>try refine ev_ ?_)|with_reducible exact ti_)
    refine qf (i+1) [0,1,2,5,6] ⟨by omega,by omega⟩ rfl (by simp) ?_ ?_ ?_<;>simp only[puSt,←e1,←e2,qcs,qdo,hvl,htl]<;>(try refine ev_ ?_)<;>(try with_reducible exact ti_)<;>(try simp (disch:=omega) only[qb,and_true,true_and])
    ·rw[e1,e2];exact⟨⟨qd0 _ _,by rw[qh1]⟩,qbp _ _,by rw[qc8]⟩
    ·rw[qo (by omega) (by omega),Int.natCast_add];rfl
  ·have hie:i=R.known.length:=by omega
   subst hie
   rw[List.take_length] at hvl htl hvl2 htl2 ⊢
   have hnn:¬(R.known.length:Int)<(R.known.length:Int):=by omega
   by_cases h0:R.known=[]
   ·have n1:ints (lsV R.known)=[]:=by rw[h0];rfl
    have n2:qg (lsT R.known)=[]:=by rw[h0];rfl
    rw[n1,n2] at hP ⊢
    simp only[qq,qw,List.append_nil]
    repeat'(first|refine vs_ ?_|(refine vr_ ?_<;>try simp only[hnn,go_sem,↓reduceIte])|((first|(refine cs_ ?_ ?_<;>intro hc)|refine cj_ ?_|refine qa hP fun _=>?_)<;>try refine ev_ ?_)|with_reducible exact ti_)
    all_goals first | (exfalso;omega)
   ·have hne:R.known.length≠0:=fun h=>h0 (List.length_eq_zero_iff.1 h)
    have n1:ints (lsV R.known)≠[]:=fun h=>hne (by rw[←hvl,h];rfl)
    have n2:qg (lsT R.known)≠[]:=fun h=>hne (by rw[←htl,h];rfl)
    simp only[q9 n1,qbc n1,q9 n2,qbc n2,hvl,htl]
    repeat'(first|refine vs_ ?_|(refine vr_ ?_<;>try simp only[hnn,hvl,htl,hvl2,htl2,go_sem,↓reduceIte])|((first|(refine cs_ ?_ ?_<;>intro hc)|refine cj_ ?_|refine qa hP fun _=>?_)<;>try refine ev_ ?_)|with_reducible exact ti_)
    all_goals first | (exfalso;omega)
set_option maxRecDepth 4000

def typR(R:RS)(t:Ty):Ty×Bool:=if lgR t=true then(if lgR (putT (lsV R.known) (lsT R.known) t)=true then(putT (lsV R.known) (lsT R.known) t,true) else(Y0,false)) else(Y0,false)
theorem q12{R:RS}{t:Ty}(hl:R.known.length≤100000)(hb:szY t≤1000000)(hu:szY (putT (lsV R.known) (lsT R.known) t)≤1000000000):qj Tryz.prog 120 [qby R,encY t] (.tup [encY (typR R t).1,.bool (typR R t).2]):=by
 refine qd c0ey (by simp) (by simp only[go_sem]) (by simp only[AV.bd,AV.bds,qx,Bool.and_true]) fun hw=>?_
 have h1:=qis t (by omega)
 have h2:=q5c (R:=R) hl hb
 have h3:=qis _ hu
 have hz:AV.agg [.str [],.int .i64 0,.sl 3 []]=encY Y0:=rfl
 unfold typR
 cases hlg:lgR t with
 | false =>
   rw[hlg] at h1
   repeat'(first|refine vs_ ?_|(refine vr_ ?_<;>try simp only[hz,go_sem,↓reduceIte])|((first|(refine cs_ ?_ ?_<;>intro hc)|refine cj_ ?_|fail|refine qa h1 fun _=>?_)<;>try refine ev_ ?_)|with_reducible exact ti_)
 | true =>
   rw[hlg] at h1
   generalize putT (lsV R.known) (lsT R.known) t=u at *
   cases hlu:lgR u with
   | false =>
     rw[hlu] at h3
     repeat'(first|refine vs_ ?_|(refine vr_ ?_<;>try simp only[hz,go_sem,↓reduceIte])|((first|(refine cs_ ?_ ?_<;>intro hc)|refine cj_ ?_|fail|refine qa h1 fun _=>?_|refine qa h2 fun _=>?_|refine qa h3 fun _=>?_)<;>try refine ev_ ?_)|with_reducible exact ti_)
   | true =>
     rw[hlu] at h3
     repeat'(first|refine vs_ ?_|(refine vr_ ?_<;>try simp only[hz,go_sem,↓reduceIte])|((first|(refine cs_ ?_ ?_<;>intro hc)|refine cj_ ?_|fail|refine qa h1 fun _=>?_|refine qa h2 fun _=>?_|refine qa h3 fun _=>?_)<;>try refine ev_ ?_)|with_reducible exact ti_)
set_option maxRecDepth 4000

def q25(R:RS)(p:Pd)(pos:Int):RS:={ useR R with waits:=R.waits++[⟨p,pos,qr0 R⟩] }
theorem q22{R:RS}{p:Pd}{pos:Int}(hl:R.waits.length≤1000000):qj Tryz.prog 45 [qby R,encP p,.int .i64 pos] (.tup [qby (q25 R p pos),.int .i64 (qr0 R)]):=by
 refine qd c0ex (by simp) (by simp only[go_sem]) (by simp only[AV.bd,AV.bds,qc3,Bool.and_true]) fun hw=>?_
 have hU:=qtd R
 generalize hS:useR R=U at hU
 have hwu:U.waits=R.waits:=by rw[←hS];rfl
 have hR:q25 R p pos={ U with waits:=U.waits++[⟨p,pos,qr0 R⟩] }:=by rw[q25,hS,hwu]
 rw[hR]
 rw[←hwu] at hl
 generalize qr0 R=h at *
 have hwf:AV.agg [.str p.cls,.str p.ty.con,.int .i64 p.ty.var,.sl 3 (qg p.ty.args),.int .i64 pos,.int .i64 h]=qel ⟨p,pos,h⟩:=rfl
 have c1:qbj (U.waits.length+1) 80=True:=eq_true (by unfold qbj;omega)
 have c2:qbj U.waits.length 80=True:=eq_true (by unfold qbj;omega)
 have c3:qbj 1 80=True:=eq_true (by unfold qbj;omega)
 unfold k0ex
 generalize hz:IC.seq q9f _=z1
 by_cases h0:U.waits.length=0
 ·have hnil:U.waits=[]:=List.length_eq_zero_iff.1 h0
  repeat'(first|refine vs_ ?_|(refine vr_ ?_<;>try simp only[hwf,h0,c1,c2,c3,go_sem,↓reduceIte])|((first|(refine cs_ ?_ ?_<;>intro hc)|refine cj_ ?_|fail|refine qa hU fun _=>?_|refine qc hU ?_)<;>try refine ev_ ?_)|with_reducible exact ti_)
  subst hz
  rw[hnil]
  refine qb8 3 rfl (qiq [⟨p,pos,h⟩]) ?_
  repeat'(first|refine vs_ ?_|((first|refine vr_ ?_|(refine cs_ ?_ ?_<;>intro hc)|refine cj_ ?_)<;>try refine ev_ ?_)|with_reducible exact ti_)
  all_goals rfl
 ·repeat'(first|refine vs_ ?_|(refine vr_ ?_<;>try simp only[hwf,h0,c1,c2,c3,go_sem,↓reduceIte])|((first|(refine cs_ ?_ ?_<;>intro hc)|refine cj_ ?_|fail|refine qa hU fun _=>?_|refine qc hU ?_)<;>try refine ev_ ?_)|with_reducible exact ti_)
  subst hz
  have hsn:qbh U.waits++[qel ⟨p,pos,h⟩]=qbh (U.waits++[⟨p,pos,h⟩]):=qin _ _
  have hlen:(qbh (U.waits++[⟨p,pos,h⟩])).length=U.waits.length+1:=by rw[qft,List.length_append];rfl
  have hlen2:(U.waits++[(⟨p,pos,h⟩:Wt)]).length=U.waits.length+1:=by rw[List.length_append];rfl
  rw[hsn]
  refine qb8 4 rfl (qiq _) ?_
  repeat'(first|refine vs_ ?_|(refine vr_ ?_<;>try simp only[hlen,hlen2,go_sem,↓reduceIte])|((first|(refine cs_ ?_ ?_<;>intro hc)|refine cj_ ?_)<;>try refine ev_ ?_)|with_reducible exact ti_)
  all_goals rfl

mutual
def szTm:Tm->Nat
 | .mk _ _ _ _ _ ks=>1+qlm ks
def qlm:List Tm->Nat
 | []=>0
 | x::r=>szTm x+qlm r
end
theorem qir(t:Tm):szTm t=1+qlm t.kids:=by cases t;rw[szTm];rfl
theorem qmz{l:List Tm}{x:Tm}(h:x∈l):szTm x≤qlm l:=by
 induction l with
 | nil=>cases h
 | cons y r ih =>
   rw[qlm]
   rcases List.mem_cons.1 h with rfl | h
   ·omega
   ·have:=ih h;omega
theorem qjt:∀l:List Tm,l.length≤qlm l
 | []=>Nat.zero_le _
 | x::r=>by rw[qlm,List.length_cons];have:=qir x;have:=qjt r;omega
mutual
def smK:Tm->Prop
 | .mk _ _ _ _ l ks=>(∀x∈l,szY x≤20000)∧l.length≤30∧smKs ks
def smKs:List Tm->Prop
 | []=>True
 | x::r=>smK x∧smKs r
end
theorem qt3(t:Tm):smK t↔(∀x∈t.types,szY x≤20000)∧t.types.length≤30∧smKs t.kids:=by cases t;rw[smK];rfl
theorem qqv{l:List Tm}(h:smKs l):∀x∈l,smK x:=by
 induction l with
 | nil=>intro x hx;cases hx
 | cons y r ih =>
   rw[smKs] at h
   intro x hx
   rcases List.mem_cons.1 hx with rfl | hx
   ·exact h.1
   ·exact ih h.2 x hx
theorem q4f{l:List Tm}(h:∀x∈l,smT x):smTs l:=by
 induction l with
 | nil=>rw[smTs];trivial
 | cons y r ih=>rw[smTs];exact⟨h y (by simp),ih fun x hx=>h x (by simp[hx])⟩
theorem qoi:∀t,szTm t≤1000000->smK t->smT t:=by
 refine Tm.ind fun t ih hz h=>?_
 obtain⟨h1,h2,h3⟩:=(qt3 t).1 h
 rw[qir] at hz
 have:=qjt t.kids
 refine(qie t).2 ⟨fun x hx=>Nat.le_trans (h1 x hx) (by decide),by omega,by omega,q4f fun x hx=>ih x hx (by have:=qmz hx;omega) (qqv h3 x hx)⟩
theorem q7x{l:List Tm}(hx:∀x∈l,∀lf dp,0≤lf->lf≤3000->0≤cntT x lf dp->cntT x lf dp+szTm x≤lf∧smK x):∀(a dp:Int),a≤3000->0≤qjm l a dp->0≤a∧qjm l a dp+qlm l≤a∧smKs l:=by
 induction l with
 | nil=>intro a dp ha h;rw[qjm] at h ⊢;rw[qlm,smKs];exact⟨h,by omega,trivial⟩
 | cons x r ih =>
   intro a dp ha h
   rw[qjm] at h ⊢
   by_cases h0:0≤a
   ·rw[if_pos h0] at h ⊢
    have hc:0≤cntT x a dp:=by
     rcases Int.lt_or_le (cntT x a dp) 0 with hn | hn
     ·rw[qs5 hn] at h;omega
     ·exact hn
    obtain⟨q1,q2⟩:=hx x (by simp) a dp h0 ha hc
    obtain⟨q3,q4,q5⟩:=ih (fun y hy=>hx y (by simp[hy])) _ dp (by omega) h
    rw[qlm,smKs]
    exact⟨h0,by omega,q2,q5⟩
   ·rw[if_neg h0] at h;omega
theorem qber:∀t lf dp,0≤lf->lf≤3000->0≤cntT t lf dp->cntT t lf dp+szTm t≤lf∧smK t:=by
 refine Tm.ind fun t ih lf dp h1 h2 h=>?_
 rw[q4s] at h ⊢
 by_cases hc:dp<1∨100<(t.vars.length:Int)∨30<(t.types.length:Int)∨qe0 t.types=false
 ·rw[if_pos hc] at h;omega
 rw[if_neg hc] at h ⊢
 have e1:IntKind.i64.wrap (lf-1)=lf-1:=qo (by omega) (by omega)
 rw[e1] at h ⊢
 obtain⟨q1,q2,q3⟩:=q7x ih _ _ (by omega) h
 have hty:t.types.length≤30:=by omega
 have hf:qe0 t.types=true:=by
  cases hf:qe0 t.types with
  | true=>rfl
  | false=>exact absurd (.inr (.inr (.inr hf))) hc
 have hz:=qwd (by unfold maxLen;omega) hf
 rw[qir]
 exact⟨by omega,(qt3 t).2 ⟨fun x hx=>by have:=qdd hx;omega,hty,q3⟩⟩
theorem q8j{t:Tm}(h:qwm t=true):szTm t≤3000∧smK t:=by
 rw[qwm,decide_eq_true_eq] at h
 obtain⟨h1,h2⟩:=qber t 3000 450 (by omega) (by omega) h
 exact⟨by omega,h2⟩
/-! holes -/
mutual
def holT:Tm->List Int
 | .mk k n _ _ _ ks=>if k=14 then [n] else qc2 ks
def qc2:List Tm->List Int
 | []=>[]
 | x::r=>holT x++qc2 r
end
theorem qe7(t:Tm):holT t=if t.kind=14 then [t.num] else qc2 t.kids:=by cases t;rw[holT];rfl
theorem qsk(l m:List Tm):qc2 (l++m)=qc2 l++qc2 m:=by
 induction l with
 | nil=>rw[qc2];rfl
 | cons x r ih=>rw[List.cons_append,qc2,qc2,ih,List.append_assoc]
theorem q4n{l:List Tm}{x:Tm}(h:x∈l):(holT x).length≤(qc2 l).length:=by
 induction l with
 | nil=>cases h
 | cons y r ih =>
   rw[qc2,List.length_append]
   rcases List.mem_cons.1 h with rfl | h
   ·omega
   ·have:=ih h;omega
theorem qi0{l:List Tm}{x:Tm}(h:x∈l){w:Int}(hw:w∈holT x):w∈qc2 l:=by
 induction l with
 | nil=>cases h
 | cons y r ih =>
   rw[qc2,List.mem_append]
   rcases List.mem_cons.1 h with rfl | h
   ·exact .inl hw
   ·exact .inr (ih h)
theorem qpe(l:List Tm)(i:Nat):(qc2 (l.take i)).length≤(qc2 l).length:=by
 have:qc2 l=qc2 (l.take i)++qc2 (l.drop i):=by rw[←qsk,List.take_append_drop]
 rw[this,List.length_append];omega
theorem qbw5:∀t,(holT t).length≤szTm t:=by
 refine Tm.ind fun t ih=>?_
 rw[qe7,qir]
 split
 ·simp
 ·have:∀l:List Tm,(∀x∈l,(holT x).length≤szTm x)->(qc2 l).length≤qlm l:=fun l=>by
   induction l with
   | nil=>intro _;rw[qc2];simp
   | cons y r ih2=>intro h;rw[qc2,qlm,List.length_append];have:=h y (by simp);have:=ih2 fun x hx=>h x (by simp[hx]);omega
  have:=this _ ih
  omega
theorem qbcc{l:List Tm}(hx:∀x∈l,∀m,lstT x m≤m∧∀w∈holT x,lstT x m≤w):∀m,qoo l m≤m∧∀w∈qc2 l,qoo l m≤w:=by
 induction l with
 | nil=>intro m;rw[qoo,qc2];exact⟨Int.le_refl _,fun w hw=>by cases hw⟩
 | cons x r ih =>
   intro m
   rw[qoo,qc2]
   obtain⟨q1,q2⟩:=hx x (by simp) m
   obtain⟨q3,q4⟩:=ih (fun y hy=>hx y (by simp[hy])) (lstT x m)
   refine⟨by omega,fun w hw=>?_⟩
   rcases List.mem_append.1 hw with hw | hw
   ·have:=q2 w hw;omega
   ·exact q4 w hw
theorem qv6:∀t m,lstT t m≤m∧∀w∈holT t,lstT t m≤w:=by
 refine Tm.ind fun t ih m=>?_
 rw[q6w,qe7]
 by_cases hk:t.kind=14
 ·rw[if_pos hk,if_pos hk]
  refine⟨by split<;>omega,fun w hw=>?_⟩
  rw[List.mem_singleton] at hw
  subst hw
  split<;>omega
 ·rw[if_neg hk,if_neg hk]
  exact qbcc ih m
/-! a hole has no kids, where a term may be -/
mutual
def noKd:Tm->Prop
 | .mk k _ _ _ _ ks=>(k=14->ks=[])∧qu3 ks
def qu3:List Tm->Prop
 | []=>True
 | x::r=>noKd x∧qu3 r
end
theorem qgw(t:Tm):noKd t↔(t.kind=14->t.kids=[])∧qu3 t.kids:=by cases t;rw[noKd];rfl
theorem qti{l:List Tm}(h:qu3 l):∀x∈l,noKd x:=by
 induction l with
 | nil=>intro x hx;cases hx
 | cons y r ih =>
   rw[qu3] at h
   intro x hx
   rcases List.mem_cons.1 hx with rfl | hx
   ·exact h.1
   ·exact ih h.2 x hx
theorem qhu{l:List Tm}(h:∀x∈l,noKd x):qu3 l:=by
 induction l with
 | nil=>rw[qu3];trivial
 | cons y r ih=>rw[qu3];exact⟨h y (by simp),ih fun x hx=>h x (by simp[hx])⟩
theorem qb5w:∀t,patT t=true->noKd t:=by
 refine Tm.ind fun t ih h=>?_
 rw[q5q,Bool.and_eq_true,Bool.and_eq_true,decide_eq_true_eq] at h
 obtain⟨⟨h1,h2⟩,h3⟩:=h
 refine(qgw t).2 ⟨fun h=>by omega,qhu fun x hx=>ih x hx ?_⟩
 rw[Bool.not_eq_true',List.any_eq_false] at h3
 have:=h3 x hx
 simpa using this
theorem qbf3{l:List Tm}(h:(l.length:Int)=1){x:Tm}(hx:x∈l):x=l.getD 0 T0:=by
 match l,h with
 | [a],_=>rw[List.mem_singleton] at hx;exact hx
theorem qbi1{l:List Tm}(h:(l.length:Int)=2){x:Tm}(hx:x∈l):x=l.getD 0 T0∨x=l.getD 1 T0:=by
 match l,h with
 | [a,b],_=>simpa using hx
theorem q1l{l:List Tm}{x:Tm}(h:x∈l):x=l.getD 0 T0∨x∈l.drop 1:=by
 cases l with
 | nil=>cases h
 | cons y r=>simpa using h
theorem q63{l:List Tm}{x:Tm}(h:x∈l):x=l.getD (l.length-1) T0∨x∈l.take (l.length-1):=by
 obtain⟨i,hi,rfl⟩:=List.getElem_of_mem h
 by_cases hl:i=l.length-1
 ·subst hl
  exact .inl (by rw[List.getD_eq_getElem?_getD,List.getElem?_eq_getElem hi];rfl)
 ·exact .inr (List.mem_take_iff_getElem.2 ⟨i,by omega,rfl⟩)
theorem q6v:∀n t,isTF n t=true->noKd t:=by
 intro n
 induction n with
 | zero=>intro t h;cases h
 | succ n ih =>
   intro t h
   rw[isTF] at h
   split at h
   ·cases h
   rename_i hg
   have hfit:fitT t=true:=by
    cases hf:fitT t with
    | true=>rfl
    | false=>rw[hf] at hg;simp at hg
   by_cases h8:t.kind=8
   ·rw[if_pos h8,Bool.and_eq_true,Bool.and_eq_true,Bool.not_eq_true',List.any_eq_false] at h
    obtain⟨⟨_,h1⟩,h2⟩:=h
    refine(qgw t).2 ⟨fun h=>by omega,qhu fun x hx=>?_⟩
    rcases q1l hx with rfl | hx
    ·exact ih _ h1
    ·have h3:=h2 x hx
     simp only[Bool.or_eq_true,decide_eq_true_eq,Bool.not_eq_true',not_or] at h3
     obtain⟨⟨⟨k1,k2⟩,k3⟩,k4⟩:=h3
     have k1:x.kind=9:=by omega
     have k2:fitT x=true:=by simpa using k2
     have k3:patT (x.kids.getD 0 T0)=true:=by simpa using k3
     have k4:isTF n (x.kids.getD 1 T0)=true:=by simpa using k4
     have kl:=qiw k2 (s:=(shpF x.kind).getD ⟨false,false,false,0,0⟩) (by rw[k1];rfl) (by rw[k1];decide)
     have kl:(x.kids.length:Int)=2:=by rw[kl,k1];rfl
     refine(qgw x).2 ⟨fun h=>by omega,qhu fun y hy=>?_⟩
     rcases qbi1 kl hy with rfl | rfl
     ·exact qb5w _ k3
     ·exact ih _ k4
   rw[if_neg h8] at h
   by_cases h10:t.kind=10
   ·rw[if_pos h10,Bool.and_eq_true,Bool.and_eq_true,Bool.not_eq_true',List.any_eq_false] at h
    obtain⟨⟨_,h1⟩,h2⟩:=h
    refine(qgw t).2 ⟨fun h=>by omega,qhu fun x hx=>?_⟩
    rcases q63 hx with rfl | hx
    ·exact ih _ h1
    ·have h3:=h2 x hx
     simp only[Bool.or_eq_true,decide_eq_true_eq,Bool.not_eq_true',not_or] at h3
     obtain⟨⟨k1,k2⟩,k4⟩:=h3
     have k1:x.kind=11:=by omega
     have k2:fitT x=true:=by simpa using k2
     have k4:isTF n (x.kids.getD 0 T0)=true:=by simpa using k4
     have kl:=qiw k2 (s:=(shpF x.kind).getD ⟨false,false,false,0,0⟩) (by rw[k1];rfl) (by rw[k1];decide)
     have kl:(x.kids.length:Int)=1:=by rw[kl,k1];rfl
     refine(qgw x).2 ⟨fun h=>by omega,qhu fun y hy=>?_⟩
     have:=qbf3 kl hy
     subst this
     exact ih _ k4
   rw[if_neg h10,Bool.not_eq_true',List.any_eq_false] at h
   refine(qgw t).2 ⟨fun hk=>?_,qhu fun x hx=>ih x (by have:=h x hx;simpa using this)⟩
   have kl:=qiw hfit (s:=(shpF t.kind).getD ⟨false,false,false,0,0⟩) (by rw[hk];rfl) (by rw[hk];decide)
   have kl:(t.kids.length:Int)=0:=by rw[kl,hk];rfl
   exact List.length_eq_zero_iff.1 (by omega)
/-! fillings -/
def qke(F:List (Int×Tm)):Prop:=∀p∈F,(szTm p.2≤3000∧smK p.2)∧noKd p.2∧∀w∈holT p.2,p.1<w
theorem qbkq{α:Type}{l:List (Int×α)}{k:Int}{v:α}{p:Int×α}(h:p∈updG l k v):p∈l∨p=(k,v):=by
 unfold updG at h
 split at h
 ·exact List.mem_or_eq_of_mem_set h
 ·rcases List.mem_append.1 h with h | h
  ·exact .inl h
  ·exact .inr (by simpa using h)
theorem qtg{f g:Tm->Int->Option (Tm×Int)}:∀(l:List Tm) (lf:Int) (q:List Tm×Int),(∀x∈l,∀lf r,f x lf=some r->g x lf=some r)->trmK f l lf=some q->trmK g l lf=some q
 | [],lf,q,_,h=>h
 | x :: r, lf, q, hfg, h => by
   rw[trmK] at h ⊢
   cases hf:f x lf with
   | none=>rw[hf] at h;cases h
   | some p =>
     rw[hf] at h
     rw[hfg x (by simp) lf p hf]
     dsimp only at h ⊢
     cases hr:trmK f r p.2 with
     | none=>rw[hr] at h;cases h
     | some z =>
       rw[hr] at h
       rw[qtg r p.2 z (fun y hy=>hfg y (by simp[hy])) hr]
       exact h
section
variable {F:List (Int×Tm)} {vs:List Int} {ts:List Ty}
theorem q3y:∀(n:Nat) (t:Tm) (lf:Int) (r:Tm×Int),trmF F vs ts n t lf=some r->trmF F vs ts (n+1) t lf=some r:=by
 intro n
 induction n with
 | zero=>intro t lf r h;rw[trmF] at h;cases h
 | succ n ih =>
   intro t lf r h
   rw[trmF] at h
   rw[trmF]
   cases hh:qfl F t with
   | some p=>rw[hh] at h;exact ih _ _ _ h
   | none =>
     rw[hh] at h
     dsimp only at h ⊢
     split at h
     ·rename_i hl;rw[if_pos hl];exact h
     ·rename_i hl
      rw[if_neg hl]
      cases hk:trmK (trmF F vs ts n) t.kids (IntKind.i64.wrap (lf-1)) with
      | none=>rw[hk] at h;cases h
      | some q =>
        rw[hk] at h
        rw[qtg _ _ q (fun x _ lf r hx=>ih x lf r hx) hk]
        exact h
theorem q35{n m:Nat}(h:n≤m){t:Tm}{lf:Int}{r:Tm×Int}(hr:trmF F vs ts n t lf=some r):trmF F vs ts m t lf=some r:=by
 induction h with
 | refl=>exact hr
 | step _ ih=>exact q3y _ _ _ _ ih
theorem qm3{f:Tm->Int->Option (Tm×Int)}:∀(l:List Tm),(∀x∈l,∀lf,∃r,f x lf=some r)->∀lf,∃q,trmK f l lf=some q
 | [],_,lf=>⟨_,rfl⟩
 | x :: r, h, lf => by
   obtain⟨p,hp⟩:=h x (by simp) lf
   obtain⟨q,hq⟩:=qm3 r (fun y hy=>h y (by simp[hy])) p.2
   exact⟨(p.1::q.1,q.2),by rw[trmK,hp];dsimp only;rw[hq]⟩
theorem qg4{p:Nat->Tm->Prop}(hm:∀n m t,n≤m->p n t->p m t):∀(l:List Tm),(∀x∈l,∃n,p n x)->∃n,∀x∈l,p n x
 | [],_=>⟨0,fun x hx=>by cases hx⟩
 | x :: r, h => by
   obtain⟨n,hn⟩:=h x (by simp)
   obtain⟨m,hm'⟩:=qg4 hm r fun y hy=>h y (by simp[hy])
   refine⟨max n m,fun y hy=>?_⟩
   rcases List.mem_cons.1 hy with rfl | hy
   ·exact hm _ _ _ (Nat.le_max_left _ _) hn
   ·exact hm _ _ _ (Nat.le_max_right _ _) (hm' y hy)
def cntF(F:List (Int×Tm))(h:Int):Nat:=(F.filter fun p=>decide (h≤p.1)).length
theorem qrx{F:List (Int×Tm)}{h k:Int}{u:Tm}(hm:(k,u)∈F)(hk:h≤k):cntF F (k+1)<cntF F h:=by
 unfold cntF
 induction F with
 | nil=>cases hm
 | cons p r ih =>
   have hle:∀r:List (Int×Tm),(r.filter fun p=>decide (k+1≤p.1)).length≤(r.filter fun p=>decide (h≤p.1)).length:=fun r=>by
    induction r with
    | nil=>exact Nat.le_refl _
    | cons q r ih2 =>
      rw[List.filter_cons,List.filter_cons]
      by_cases c1:k+1≤q.1
      ·rw[if_pos (by simpa using c1),if_pos (by simp;omega)];simp only[List.length_cons];omega
      ·rw[if_neg (by simpa using c1)]
       split
       ·simp only[List.length_cons];omega
       ·exact ih2
   rw[List.filter_cons,List.filter_cons]
   rcases List.mem_cons.1 hm with rfl | hm
   ·rw[if_neg (by simp;omega),if_pos (by simp;omega)]
    have:=hle r
    simp only[List.length_cons];omega
   ·have:=ih hm
    by_cases c1:k+1≤p.1
    ·rw[if_pos (by simpa using c1),if_pos (by simp;omega)];simp only[List.length_cons];omega
    ·rw[if_neg (by simpa using c1)]
     split
     ·simp only[List.length_cons];omega
     ·exact this
theorem qbj6(hF:qke F):∀(k:Nat) (h:Int),cntF F h≤k->∀t,noKd t->(∀w∈holT t,h≤w)->∃n,∀lf,∃r,trmF F vs ts n t lf=some r:=by
 intro k
 induction k with
 | zero =>
   intro h hc
   refine Tm.ind fun t ih hn hw=>?_
   obtain⟨hn1,hn2⟩:=(qgw t).1 hn
   have hno:qfl F t=none:=by
    unfold qfl
    split
    ·rename_i hk
     cases hl:qf5 F t.num with
     | none=>rfl
     | some q =>
       obtain⟨j,u⟩:=q
       have hm:=qju hl
       have:=qrx hm (hw t.num (by rw[qe7,if_pos hk];simp))
       omega
    ·rfl
   have hkw:∀x∈t.kids,∀w∈holT x,h≤w:=fun x hx w hwx=>by
    by_cases hk:t.kind=14
    ·rw[hn1 hk] at hx;cases hx
    ·exact hw w (by rw[qe7,if_neg hk];exact qi0 hx hwx)
   obtain⟨n,hn⟩:=qg4 (p:=fun n x=>∀lf,∃r,trmF F vs ts n x lf=some r) (fun n m t hnm hp lf=>by obtain⟨r,hr⟩:=hp lf;exact⟨r,q35 hnm hr⟩) t.kids fun x hx=>ih x hx (qti hn2 x hx) (hkw x hx)
   refine⟨n+1,fun lf=>?_⟩
   rw[trmF,hno]
   dsimp only
   split
   ·exact⟨_,rfl⟩
   ·obtain⟨q,hq⟩:=qm3 t.kids hn (IntKind.i64.wrap (lf-1))
    exact⟨_,by rw[hq]⟩
 | succ k ihk =>
   intro h hc
   refine Tm.ind fun t ih hn hw=>?_
   obtain⟨hn1,hn2⟩:=(qgw t).1 hn
   cases hho:qfl F t with
   | some q =>
     obtain⟨j,u⟩:=q
     have hk:t.kind=14:=by
      unfold qfl at hho
      by_cases hk:t.kind=14
      ·exact hk
      ·rw[if_neg hk] at hho;cases hho
     have hm:(t.num,u)∈F:=qju (by unfold qfl at hho;rwa [if_pos hk] at hho)
     have hlt:=qrx hm (hw t.num (by rw[qe7,if_pos hk];simp))
     obtain⟨_,f2,f3⟩:=hF _ hm
     obtain⟨n,hn⟩:=ihk (t.num+1) (by omega) u f2 fun w hw=>by have:=f3 w hw;dsimp only at this;omega
     refine⟨n+1,fun lf=>?_⟩
     obtain⟨r,hr⟩:=hn lf
     exact⟨r,by rw[trmF,hho];exact hr⟩
   | none =>
     have hkw:∀x∈t.kids,∀w∈holT x,h≤w:=fun x hx w hwx=>by
      by_cases hk:t.kind=14
      ·rw[hn1 hk] at hx;cases hx
      ·exact hw w (by rw[qe7,if_neg hk];exact qi0 hx hwx)
     obtain⟨n,hn⟩:=qg4 (p:=fun n x=>∀lf,∃r,trmF F vs ts n x lf=some r) (fun n m t hnm hp lf=>by obtain⟨r,hr⟩:=hp lf;exact⟨r,q35 hnm hr⟩) t.kids fun x hx=>ih x hx (qti hn2 x hx) (hkw x hx)
     refine⟨n+1,fun lf=>?_⟩
     rw[trmF,hho]
     dsimp only
     split
     ·exact⟨_,rfl⟩
     ·obtain⟨q,hq⟩:=qm3 t.kids hn (IntKind.i64.wrap (lf-1))
      exact⟨_,by rw[hq]⟩
theorem qbsz(hF:qke F)(t:Tm)(hn:noKd t):∃n,∀lf,∃r,trmF F vs ts n t lf=some r:=by
 obtain⟨h,hh⟩:∃h:Int,∀w∈holT t,h≤w:=⟨lstT t 0,(qv6 t 0).2⟩
 exact qbj6 hF _ h (Nat.le_refl _) t hn hh
end
end Go.Proofs.YtkenggenkmfopaaGreat
