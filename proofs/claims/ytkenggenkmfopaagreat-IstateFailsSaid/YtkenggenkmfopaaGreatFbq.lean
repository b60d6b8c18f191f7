/- Texts of this proof, joined. -/
import Derived.Test.YtkenggenkmfopaaGreatFbm
import Derived.Test.YtkenggenkmfopaaGreatFbo
set_option linter.unusedVariables false
set_option linter.unusedSimpArgs false

/- the state: what is known stays known -/
namespace Go.Proofs.YtkenggenkmfopaaGreat
open Go Go.RowKit Go.V

theorem qwd{s:List Pr}(h:risR s){p:Pr}(hp:p∈s):qm p.v s=some p.ty:=by
 induction s with
 | nil=>cases hp
 | cons q r ih =>
   rw[qm]
   rcases List.mem_cons.1 hp with rfl | hp
   ·rw[if_pos rfl]
   ·rw[if_neg (by have:=h.1 p hp;omega)];exact ih h.2 hp
theorem qb1k{V W:List Int}{s u:List Pr}(h:Inv V s [])(hu:Inv W u [])(hW:∀w∈W,w∈V∧qm w s=none)(he:(behR s u).2=0):Inv V (behR s u).1 []:=by
 have hl:=qix h.ok hu.ok he
 have hok:=qu8 h.ok hu.ok
 have hfr:∀w,qm w s=none->qm w u=none->qm w (behR s u).1=none:=fun w h1 h2=>by rw[hl,h1];exact h2
 have hc:∀p∈(behR s u).1,(∃t,qm p.v s=some t∧p.ty=putY u t)∨(qm p.v s=none∧qm p.v u=some p.ty):=fun p hp=>by
  have h1:=qwd hok.1 hp
  rw[hl] at h1
  cases hs:qm p.v s with
  | some t=>rw[hs] at h1;exact .inl ⟨t,rfl,by simpa using h1.symm⟩
  | none=>rw[hs] at h1;exact .inr ⟨rfl,h1⟩
 have hv:∀p∈(behR s u).1,∀w,w∈varY p.ty->w∈V∧qm w s=none∧qm w u=none:=fun p hp w hw=>by
  rcases hc p hp with ⟨t,h1,h2⟩ | ⟨h1,h2⟩
  ·obtain⟨q,hq,_,rfl⟩:=qcq h1
   have hb:=qbp (h.ok.2 q hq)
   rw[h2] at hw
   have k1:=qkh hu.ok hu.sep hb hw
   rw[qep u _ hb] at hw
   obtain⟨v,m1,m2⟩:=qjq _ _ hb w hw
   cases hlu:qm v u with
   | none=>rw[qd9 hlu,var1] at m2;simp at m2;subst m2;exact⟨h.vars q hq w m1,h.sep q hq w m1,k1⟩
   | some x =>
     rw[funR,hlu] at m2
     obtain⟨z,hz,_,rfl⟩:=qcq hlu
     have:=hW w (hu.vars z hz w m2)
     exact⟨this.1,this.2,k1⟩
  ·obtain⟨z,hz,z1,z2⟩:=qcq h2
   rw[←z2] at hw
   have:=hW w (hu.vars z hz w hw)
   exact⟨this.1,this.2,hu.sep z hz w hw⟩
 refine⟨hok,fun p hp w hw=>?_,fun p hp=>?_,fun p hp w hw=>(hv p hp w hw).1,fun x hx=>(by cases hx),fun x hx=>(by cases hx)⟩
 ·obtain⟨_,a,b⟩:=hv p hp w hw;exact hfr w a b
 ·rcases hc p hp with ⟨t,h1,_⟩ | ⟨h1,h2⟩
  ·obtain⟨q,hq,e,_⟩:=qcq h1;rw[←e];exact h.keys q hq
  ·obtain⟨q,hq,e,_⟩:=qcq h2;rw[←e];exact(hW _ (hu.keys q hq)).1
theorem q2d{V:List Int}{s:List Pr}{a b:Ty}{q:List Pr×Int}(h:Inv V s [])(ha:∀w,w∈varY a->w∈V)(hb:∀w,w∈varY b->w∈V)(hq:WitQ s a b q)(he:q.2=0):
 Inv V q.1 []∧(∀x y,bare x->bare y->putY s x=putY s y->putY q.1 x=putY q.1 y)∧qi a=true∧qi b=true∧putY q.1 a=putY q.1 b:=by
 unfold WitQ at hq
 by_cases h1:(appR s a).2=0
 case neg=>rw[if_neg h1] at hq;rw[hq] at he;exact absurd he h1
 rw[if_pos h1] at hq
 by_cases h2:(appR s b).2=0
 case neg=>rw[if_neg h2] at hq;rw[hq] at he;exact absurd he h2
 rw[if_pos h2] at hq
 obtain⟨u,hu,hq⟩:=hq
 by_cases h3:u.2=0
 case neg=>rw[if_neg h3] at hq;rw[hq] at he;exact absurd he h3
 rw[if_pos h3] at hq
 obtain⟨a1,a2,a3⟩:=qb0 h.ok h1
 obtain⟨b1,b2,b3⟩:=qb0 h.ok h2
 rw[a3,b3] at hu
 rw[UniQ,if_pos ⟨a2,b2⟩] at hu
 obtain⟨n,hu⟩:=hu
 obtain⟨i1,i2,i3⟩:=qhj n [] _ u (qml a2 b2) hu h3
 have i3:=i3 _ (List.mem_singleton.2 rfl)
 dsimp only at i3
 subst hq
 dsimp only at he ⊢
 have ab:=qbp a1
 have bb:=qbp b1
 have hpp:∀t,bare t->putY (behR s u.1).1 t=putY u.1 (putY s t):=fun t ht=>(qxr (qix h.ok i1.ok he) t ht).symm
 refine⟨qb1k h i1 (fun w hw=>?_) he,fun x y hx hy hxy=>by rw[hpp x hx,hpp y hy,hxy],a1,b1,?_⟩
 ·rcases List.mem_append.1 hw with hw | hw
  ·exact⟨qht h ab ha hw,qkh h.ok h.sep ab hw⟩
  ·exact⟨qht h bb hb hw,qkh h.ok h.sep bb hw⟩
 ·rw[hpp a ab,hpp b bb,qep _ _ (qbp a2),qep _ _ (qbp b2)]
  exact i3
/-! both ways to put types in the place of variables -/
theorem qxv(v:Int):∀(s:List Pr) (k:Int),0≤k->(qm v s=none∧idxW v (lsV s) k<0)∨∃i,i<s.length∧idxW v (lsV s) k=k+i∧qm v s=some ((lsT s).getD i Y0)
 | [],k,h=>.inl ⟨rfl,by simp[lsV,idxW]⟩
 | p :: r, k, h => by
   have e1:lsV (p::r)=p.v::lsV r:=rfl
   have e2:lsT (p::r)=p.ty::lsT r:=rfl
   rw[e1,e2,idxW,qm]
   by_cases hv:v=p.v
   ·rw[if_pos hv,if_pos hv.symm]
    exact .inr ⟨0,by simp,by omega,rfl⟩
   ·rw[if_neg hv,if_neg (fun h=>hv h.symm)]
    rcases qxv v r (k+1) (by omega) with ⟨h1,h2⟩ | ⟨i,h1,h2,h3⟩
    ·exact .inl ⟨h1,h2⟩
    ·exact .inr ⟨i+1,by simp;omega,by rw[h2];omega,by rw[h3];rfl⟩
theorem qxx(s:List Pr)(t:Ty):putY s t=if t.con=[] then(match qm t.var s with | some u=>u | none=>t) else .mk t.con t.var (t.args.map (putY s)):=by
 cases t;rw[putY,qhh];rfl
theorem qzd(s:List Pr):∀t,putT (lsV s) (lsT s) t=putY s t:=by
 refine Ty.ind fun t ih=>?_
 rw[qvn,qxx]
 split
 ·have hl:(lsT s).length=s.length:=by simp[lsT]
  rcases qxv t.var s 0 (Int.le_refl _) with ⟨h1,h2⟩ | ⟨i,h1,h2,h3⟩
  ·rw[h1,if_neg (by omega)]
  ·rw[h3,h2,if_pos (by omega)]
   simp only[Int.zero_add,Int.toNat_natCast]
 ·rw[List.map_congr_left ih]
theorem q7e(S:SS)(t:Ty):typS S t=if lgY t=true then(if lgY (putY S.known t)=true then putY S.known t else Y0) else Y0:=by
 unfold typS typK
 cases h:lgY t
 ·simp
 ·simp only[if_true,qzd]
/-! what is a type is one of System F -/
set_option maxRecDepth 4000

structure RS where
 vars:Int
 fixed:Int
 names:Int
 holes:Int
 known:List Pr
 waits:List Wt
 fills:List (Int×Tm)
 err:Int
 pos:Int
def encF(p:Int×Tm):AV:=.agg [.int .i64 p.1,.int .i64 p.2.kind,.int .i64 p.2.num,.str p.2.name,.sl 1 (ints p.2.vars),.sl 3 (qf p.2.types),.sl 6 (qbl p.2.kids)]
def qh3(l:List (Int×Tm)):List AV:=l.map encF
theorem qvv(k:Nat)(x:Int×Tm):(encF x).bd k=true:=by simp only[encF,AV.bd,AV.bds,qdz,qbm,qhn,Bool.and_true]
theorem qqz(k:Nat)(l:List (Int×Tm)):AV.bds k (qh3 l)=true:=by rw[qh3,qc2,List.all_map,List.all_eq_true];exact fun x _=>qvv k x
theorem qbh7(σ:Nat->Nat)(x:Int×Tm):(encF x).ren σ=encF x:=ren_same (m:=0) (fun i hi=>by omega) _ (qvv 0 x)
theorem q5a(σ:Nat->Nat)(l:List (Int×Tm)):AV.rens σ (qh3 l)=qh3 l:=qp (m:=0) (fun i hi=>by omega) _ (qqz 0 l)
theorem ql1(l:List (Int×Tm)):(qh3 l).length=l.length:=by simp[qh3]
abbrev rsc(R:RS):List AV:=[.int .i64 R.vars,.int .i64 R.fixed,.int .i64 R.names,.int .i64 R.holes,.sl 4 (qz R.known),.sl 6 (qbg R.waits),.sl 7 (qh3 R.fills),.int .i64 R.err,.int .i64 R.pos]
def qbx(R:RS):AV:=.agg (rsc R)
theorem qvk(R:RS):(qbx R).cells=rsc R:=rfl
theorem qcx(k:Nat)(R:RS):(qbx R).bd k=true:=by simp only[qbx,AV.bd,AV.bds,qcd,qcv,qqz,Bool.and_true]
theorem q46(σ:Nat->Nat)(R:RS):(qbx R).ren σ=qbx R:=ren_same (m:=0) (fun i hi=>by omega) _ (qcx 0 R)
theorem qbbk(H:List Ent)(R:RS):co H (.agg [.id,.id,.id,.id,.sl 4,.sl 6,.sl 7,.id,.id]) (qbx R)=qbx R:=by
 simp only[qbx,qir,qeq,qf5,qom,qeh]
theorem q2j(R:RS):rdCo (.agg [.id,.id,.id,.id,.sl 4,.sl 6,.sl 7,.id,.id]) (qbx R)=[]:=by
 simp only[qbx,qeg,qc0,qdi,qf1,qcz,List.append_nil]
theorem q8r(R:RS):(qbx R).isAgg=true:=rfl
theorem qqu(R:RS):(qbx R).leaf=false:=rfl
attribute [go_sem] qvv qqz qbh7 q5a ql1 qvk qcx q46 qbbk q2j q8r qqu
theorem qum(v:Int):qj Tryz.prog 75 [.int .i64 v] (encY (.mk [] v [])):=by
 refine qd c0fr (by simp) (by simp only[go_sem]) (qx 0 _) fun hw=>?_
 repeat'(first|refine vs_ ?_|((first|refine vr_ ?_|(refine cs_ ?_ ?_<;>intro hc)|refine cj_ ?_)<;>try refine ev_ ?_)|with_reducible exact ti_)
 all_goals rfl
def varR(R:RS):RS:={ R with vars:=IntKind.i64.wrap (R.vars+1) }
theorem q8d(R:RS):qj Tryz.prog 42 [qbx R] (.tup [qbx (varR R),encY (.mk [] (IntKind.i64.wrap (0-IntKind.i64.wrap (R.vars+1))) [])]):=by
 refine qd c0fs (by simp) (by simp only[go_sem]) (by simp only[AV.bd,AV.bds,qcx,qx,Bool.and_true]) fun hw=>?_
 have hV:=qum (IntKind.i64.wrap (0-IntKind.i64.wrap (R.vars+1)))
 repeat'(first|refine vs_ ?_|((first|refine vr_ ?_|refine qa hV fun _=>?_|refine qc hV ?_|(refine cs_ ?_ ?_<;>intro hc)|refine cj_ ?_)<;>try refine ev_ ?_)|with_reducible exact ti_)
 all_goals rfl
def fixR(R:RS):RS:={ R with fixed:=IntKind.i64.wrap (R.fixed+1) }
theorem q7a{R:RS}(hb:(Lit.int .i64 R.fixed).wf=true):qj Tryz.prog 43 [qbx R] (.tup [qbx (fixR R),encY (.mk (33::digI R.fixed) 0 [])]):=by
 refine qd c0ft (by simp) (by simp only[go_sem]) (by simp only[AV.bd,AV.bds,qcx,qx,Bool.and_true]) fun hw=>?_
 have hd:=qjs hb
 have hml:maxLen=9223372036854775807:=rfl
 repeat'(first|refine vs_ ?_|((first|refine vr_ ?_|refine qa (qfy _) fun _=>?_|refine qc (qfy _) ?_|(refine cs_ ?_ ?_<;>intro hc)|refine cj_ ?_)<;>try refine ev_ ?_)|with_reducible exact ti_)
 all_goals rfl
def qb40(R:RS):RS:={ R with names:=IntKind.i64.wrap (R.names+1) }
theorem q0y{R:RS}(hb:(Lit.int .i64 R.names).wf=true):qj Tryz.prog 44 [qbx R] (.tup [qbx (qb40 R),.str (35::digI R.names)]):=by
 refine qd c0fu (by simp) (by simp only[go_sem]) (by simp only[AV.bd,AV.bds,qcx,Bool.and_true]) fun hw=>?_
 have hd:=qjs hb
 have hml:maxLen=9223372036854775807:=rfl
 repeat'(first|refine vs_ ?_|((first|refine vr_ ?_|refine qa (qfy _) fun _=>?_|(refine cs_ ?_ ?_<;>intro hc)|refine cj_ ?_)<;>try refine ev_ ?_)|with_reducible exact ti_)
 all_goals rfl
def qu1(R:RS)(e pos:Int):RS:=if R.err=0 then { R with err:=if e=0 then 1 else e,pos:=pos } else R
theorem qkn(R:RS)(e pos:Int):qj Tryz.prog 18 [qbx R,.int .i64 e,.int .i64 pos] (qbx (qu1 R e pos)):=by
 refine qd c0fv (by simp) (by simp only[go_sem]) (qcx 0 _) fun hw=>?_
 unfold qu1
 by_cases h1:R.err=0
 ·rw[if_pos h1]
  by_cases h2:e=0
  ·rw[if_pos h2]
   repeat'(first|refine vs_ ?_|(refine vr_ ?_<;>try simp only[h1,h2,go_sem,↓reduceIte])|((first|(refine cs_ ?_ ?_<;>intro hc)|refine cj_ ?_)<;>try refine ev_ ?_)|with_reducible exact ti_)
   all_goals rfl
  ·rw[if_neg h2]
   repeat'(first|refine vs_ ?_|(refine vr_ ?_<;>try simp only[h1,h2,go_sem,↓reduceIte])|((first|(refine cs_ ?_ ?_<;>intro hc)|refine cj_ ?_)<;>try refine ev_ ?_)|with_reducible exact ti_)
   all_goals rfl
 ·rw[if_neg h1]
  repeat'(first|refine vs_ ?_|(refine vr_ ?_<;>try simp only[h1,go_sem,↓reduceIte])|((first|(refine cs_ ?_ ?_<;>intro hc)|refine cj_ ?_)<;>try refine ev_ ?_)|with_reducible exact ti_)
  all_goals rfl
def qqm(R:RS):Int:=IntKind.i64.wrap (IntKind.i64.wrap (R.holes+1)-1)
def useR(R:RS):RS:={ R with holes:=IntKind.i64.wrap (R.holes+1) }
theorem qry(R:RS):qj Tryz.prog 46 [qbx R] (.tup [qbx (useR R),.int .i64 (qqm R)]):=by
 refine qd c0fw (by simp) (by simp only[go_sem]) (by simp only[AV.bd,AV.bds,qcx,Bool.and_true]) fun hw=>?_
 repeat'(first|refine vs_ ?_|((first|refine vr_ ?_|(refine cs_ ?_ ?_<;>intro hc)|refine cj_ ?_)<;>try refine ev_ ?_)|with_reducible exact ti_)
 all_goals rfl
def qcnn(R:RS)(n:Int):Int:=if R.waits.length<(if 0 > n then 0 else n) then R.waits.length else(if 0 > n then 0 else n)
def forR(R:RS)(n:Int):RS:={ R with waits:=R.waits.take (qcnn R n).toNat }
theorem qux{R:RS}{n:Int}:qj Tryz.prog 47 [qbx R,.int .i64 n] (qbx (forR R n)):=by
 refine qd c0fx (by simp) (by simp only[go_sem]) (qcx 0 _) fun hw=>?_
 repeat'(first|refine vs_ ?_|((first|refine vr_ ?_|(refine cs_ ?_ ?_<;>intro hc)|refine cj_ ?_)<;>try refine ev_ ?_)|with_reducible exact ti_)
 all_goals first | rfl
set_option maxRecDepth 4000

def q8p(vs:List Int)(ts:List Ty)(t:Ty)(i:Nat):AF×List Ent:=(⟨[(1,.sl 1 (ints vs)),(2,.sl 3 (qf ts)),(3,.ptr 0 0),(6,.ptr 1 0),(8,accV 2 (qf ((t.args.take i).map (putT vs ts)))),(9,.int .i64 i)],[]⟩,[.blk (yc t),.blk [.str [],.int .i64 0,.nils]]++accE 3 (qf ((t.args.take i).map (putT vs ts))))
theorem q4e(vs:List Int)(ts:List Ty):∀t,szY t≤1000000->qj Tryz.prog 217 [encY t,.sl 1 (ints vs),.sl 3 (qf ts)] (encY (putT vs ts t)):=by
 refine Ty.ind fun t ih hb=>?_
 refine qd c0fq (by simp) (by simp only[go_sem]) (qx 0 _) fun hw=>?_
 have hk:=qci hw.1
 have hsz:=qdr t
 have hal:=qen t.args
 have hvl:vs.length≤maxLen:=by have:=hw.2.1.1;rwa [qck] at this
 have htl:ts.length≤maxLen:=by have:=hw.2.2.1.1;rwa [q9] at this
 rw[qvn]
 by_cases hc:t.con=[]
 ·rw[if_pos hc]
  have hf:AV.agg [.str [],.int .i64 t.var,.sl 3 (qf t.args)]=encY t:=by rw[←qbd t,hc]
  repeat'(first|refine vs_ ?_|(refine vr_ ?_<;>try simp only[hc,go_sem,↓reduceIte])|((first|(refine cs_ ?_ ?_<;>intro hc)|refine cj_ ?_)<;>try refine ev_ ?_)|with_reducible exact ti_)
  refine qk (S:=Nat) (fun i=>i≤vs.length∧idxW t.var (vs.drop i) i=idxW t.var vs 0) (fun i=>(⟨[(1,.sl 1 (ints vs)),(2,.sl 3 (qf ts)),(3,.ptr 0 0),(6,.ptr 1 0),(7,.int .i64 i)],[]⟩,[.blk [.str [],.int .i64 t.var,.sl 3 (qf t.args)],.blk [.str [],.int .i64 0,.nils]])) (fun i=>vs.length-i) ?_ fun i hi=>?_
  ·refine qg 0 [0,1] ⟨Nat.zero_le _,rfl⟩ rfl (by simp) ?_ ?_ ?_<;>(try refine ev_ ?_)<;>(try with_reducible exact ti_)<;>(try simp (disch:=omega) only[qb,and_true,true_and])
  ·obtain⟨hi,ha⟩:=hi
   by_cases hlt:i<vs.length
   ·have hg:=qfm hlt
    have hltI:(i:Int)<(vs.length:Int):=by omega
    rw[qwx hlt,idxW] at ha
    generalize vs.getD i 0=x at *
    by_cases hx:t.var=x
    ·rw[if_pos hx] at ha
     subst hx
     rw[←ha]
     by_cases h2:(i:Int)<(ts.length:Int)
     ·have hgt:=ql (l:=ts) (i:=i) (by omega)
      rw[if_pos ⟨by omega,h2⟩,Int.toNat_natCast]
      repeat'(first|refine vs_ ?_|(refine vr_ ?_<;>try simp only[hg,hltI,h2,hgt,go_sem,↓reduceIte])|((first|simp (disch:=omega) only[hg]|simp (disch:=omega) only[hgt]|(refine cs_ ?_ ?_<;>intro hc)|refine cj_ ?_)<;>try refine ev_ ?_)|with_reducible exact ti_)
      all_goals first | (exfalso;omega)
     ·rw[if_neg (by omega)]
      repeat'(first|refine vs_ ?_|(refine vr_ ?_<;>try simp only[hg,hltI,h2,go_sem,↓reduceIte])|((first|simp (disch:=omega) only[hg]|(refine cs_ ?_ ?_<;>intro hc)|refine cj_ ?_)<;>try refine ev_ ?_)|with_reducible exact ti_)
      all_goals first | (exfalso;omega) | rw[hf]
    ·rw[if_neg hx] at ha
     have hx':¬x=t.var:=fun h=>hx h.symm
     repeat'(first|refine vs_ ?_|(refine vr_ ?_<;>try simp (disch:=first|omega|(simp only[List.length_set,List.length_append,List.length_cons,List.length_nil];try omega)) only[hg,hltI,hx',qb,go_sem,↓reduceIte])|((first|simp (disch:=omega) only[hg]|(refine cs_ ?_ ?_<;>intro hc)|refine cj_ ?_)<;>try refine ev_ ?_)|with_reducible exact ti_)
     all_goals try(exfalso;omega)
     refine qg (i+1) [0,1] ⟨⟨by omega,ha⟩,by omega⟩ rfl (by simp) ?_ ?_ ?_<;>(try refine ev_ ?_)<;>(try with_reducible exact ti_)<;>(try simp (disch:=omega) only[qb,and_true,true_and])
   ·rw[List.drop_of_length_le (by omega),idxW] at ha
    rw[←ha,if_neg (by omega)]
    have hn:¬(i:Int)<(vs.length:Int):=by omega
    repeat'(first|refine vs_ ?_|(refine vr_ ?_<;>try simp only[hn,go_sem,↓reduceIte])|((first|(refine cs_ ?_ ?_<;>intro hc)|refine cj_ ?_)<;>try refine ev_ ?_)|with_reducible exact ti_)
    all_goals first | (exfalso;omega) | rw[hf]
 ·rw[if_neg hc]
  have hcd:decide (t.con=[])=false:=decide_eq_false hc
  have ih':∀i,i<t.args.length->qj Tryz.prog 217 [encY (t.args.getD i Y0),.sl 1 (ints vs),.sl 3 (qf ts)] (encY (putT vs ts (t.args.getD i Y0))):=fun i hi=>ih _ (qba hi) (by have:=qdp (qba hi);omega)
  repeat'(first|refine vs_ ?_|(refine vr_ ?_<;>try simp only[hcd,go_sem,↓reduceIte])|((first|(refine cs_ ?_ ?_<;>intro hc)|refine cj_ ?_)<;>try refine ev_ ?_)|with_reducible exact ti_)
  refine qk (S:=Nat) (fun i=>i≤t.args.length) (q8p vs ts t) (fun i=>t.args.length-i) ?_ fun i hi=>?_
  ·refine qg 0 [0,1] (Nat.zero_le _) rfl (by simp) ?_ ?_ ?_<;>simp only[q8p,List.take_zero,List.map_nil,qf,qq,qw,List.append_nil]<;>(try refine ev_ ?_)<;>(try with_reducible exact ti_)<;>(try simp (disch:=omega) only[qb,and_true,true_and])
  ·unfold q8p
   have hol:(qf ((t.args.take i).map (putT vs ts))).length=i:=by rw[q9,List.length_map,List.length_take];omega
   have hol2:((t.args.take i).map (putT vs ts)).length=i:=by rw[←q9];exact hol
   by_cases hlt:i<t.args.length
   ·have hg:=ql hlt
    have hcall:=ih' i hlt
    have hltI:(i:Int)<(t.args.length:Int):=by omega
    have e1:qf ((t.args.take i).map (putT vs ts))++[encY (putT vs ts (t.args.getD i Y0))]=qf ((t.args.take (i+1)).map (putT vs ts)):=by rw[qew,qhi hlt,List.map_append];rfl
    have c1:qbi (i+1) 48=True:=eq_true (by unfold qbi;omega)
    generalize t.args.getD i Y0=x at *
    generalize putT vs ts x=y at *
    by_cases h0:i=0
    ·subst h0
     have n1:qf ((t.args.take 0).map (putT vs ts))=[]:=rfl
     rw[n1] at e1
     rw[n1]
     have hif0:(0:Int)<(t.args.length:Int):=by omega
     simp only[qq,qw,List.append_nil]
     repeat'(first|refine vs_ ?_|(refine vr_ ?_<;>try simp (disch:=first|omega|(simp only[List.length_set,List.length_append,List.length_cons,List.length_nil];try omega)) only[hg,hif0,qb,c1,go_sem,↓reduceIte])|((first|simp (disch:=omega) only[hg]|(refine cs_ ?_ ?_<;>intro hc)|refine cj_ ?_|refine qa hcall fun _=>?_|refine qc hcall ?_)<;>try refine ev_ ?_)|with_reducible exact ti_)
     all_goals try(exfalso;omega)
     refine qg 1 [0,1,2] ⟨by omega,by omega⟩ rfl (by simp) ?_ ?_ ?_<;>simp only[q8p,←e1,List.nil_append,qc7,qej]<;>(try refine ev_ ?_)<;>(try with_reducible exact ti_)<;>(try simp (disch:=omega) only[qb,and_true,true_and])
     all_goals first | rfl
    ·have n1:qf ((t.args.take i).map (putT vs ts))≠[]:=fun h=>h0 (by rw[←hol,h];rfl)
     simp only[q7 n1,qbc n1,hol]
     repeat'(first|refine vs_ ?_|(refine vr_ ?_<;>try simp (disch:=first|omega|(simp only[List.length_set,List.length_append,List.length_cons,List.length_nil];try omega)) only[hg,hltI,hol,hol2,qb,c1,go_sem,↓reduceIte])|((first|simp (disch:=omega) only[hg]|(refine cs_ ?_ ?_<;>intro hc)|refine cj_ ?_|refine qa hcall fun _=>?_|refine qc hcall ?_)<;>try refine ev_ ?_)|with_reducible exact ti_)
     all_goals try(exfalso;omega)
     refine qg (i+1) [0,1,3] ⟨by omega,by omega⟩ rfl (by simp) ?_ ?_ ?_<;>simp only[q8p,←e1,qcm,qdh,hol,hol2]<;>(try refine ev_ ?_)<;>(try with_reducible exact ti_)<;>(try simp (disch:=omega) only[qb,and_true,true_and])
     all_goals first | (rw[e1];exact⟨qbm _ _,by rw[qc6]⟩) | (rw[qo (by omega) (by omega),Int.natCast_add];rfl)
   ·have hie:i=t.args.length:=by omega
    subst hie
    rw[List.take_length] at hol ⊢
    have hn:¬(t.args.length:Int)<(t.args.length:Int):=by omega
    by_cases h0:t.args=[]
    ·have n1:qf (t.args.map (putT vs ts))=[]:=by rw[h0];rfl
     have n2:t.args.map (putT vs ts)=[]:=by rw[h0];rfl
     rw[n1,n2]
     simp only[qq,qw,List.append_nil]
     repeat'(first|refine vs_ ?_|(refine vr_ ?_<;>try simp only[hn,go_sem,↓reduceIte])|((first|(refine cs_ ?_ ?_<;>intro hc)|refine cj_ ?_)<;>try refine ev_ ?_)|with_reducible exact ti_)
     all_goals first | (exfalso;omega) | rfl
    ·have n1:qf (t.args.map (putT vs ts))≠[]:=fun h=>h0 (List.length_eq_zero_iff.1 (by rw[←hol,h];rfl))
     simp only[q7 n1,qbc n1,hol]
     have hol3:(t.args.map (putT vs ts)).length=t.args.length:=by simp
     repeat'(first|refine vs_ ?_|(refine vr_ ?_<;>try simp only[hn,hol,hol3,go_sem,↓reduceIte])|((first|(refine cs_ ?_ ?_<;>intro hc)|refine cj_ ?_)<;>try refine ev_ ?_)|with_reducible exact ti_)
     all_goals first | (exfalso;omega) | (rw[encY])
set_option maxRecDepth 4000

def clR(s:List UInt8):List UInt8 :=
 if s.length<3 then [] else if ¬((s.getD 0 0).toNat:Int)=123 then [] else if ¬((s.getD (s.length-1) 0).toNat:Int)=125 then [] else
 if conW ((s.take (s.length-1)).drop 1)=true then(s.take (s.length-1)).drop 1 else []
theorem qwh(s:List UInt8):qj Tryz.prog 245 [.str s] (.str (clR s)):=by
 refine qd c0fo (by simp) (by simp only[go_sem]) rfl fun hw=>?_
 have hsl:s.length≤maxLen:=hw.1
 have hml:maxLen=9223372036854775807:=rfl
 unfold clR
 by_cases h3:s.length<3
 ·rw[if_pos h3]
  have h3i:(s.length:Int)<3:=by omega
  repeat'(first|refine vs_ ?_|(refine vr_ ?_<;>try simp only[h3i,go_sem,↓reduceIte])|((first|(refine cs_ ?_ ?_<;>intro hc)|refine cj_ ?_)<;>try refine ev_ ?_)|with_reducible exact ti_)
 rw[if_neg h3]
 have h3i:¬(s.length:Int)<3:=by omega
 by_cases h0:((s.getD 0 0).toNat:Int)=123
 ·rw[if_neg (by simpa using h0)]
  have hwr:IntKind.i64.wrap ((s.length:Int)-1)=((s.length-1:Nat):Int):=by rw[qo (by omega) (by omega)];omega
  by_cases h1:((s.getD (s.length-1) 0).toNat:Int)=125
  ·rw[if_neg (by simpa using h1)]
   have hC:=qr8 ((s.take (s.length-1)).drop 1)
   generalize hM:(s.take (s.length-1)).drop 1=M at *
   cases hc:conW M with
   | true =>
     rw[hc] at hC
     rw[if_pos rfl]
     repeat'(first|refine vs_ ?_|(refine vr_ ?_<;>try simp only[h3i,h0,h1,hwr,Int.toNat_natCast,hM,go_sem,↓reduceIte])|((first|(refine cs_ ?_ ?_<;>intro hc)|refine cj_ ?_|refine qa hC fun _=>?_)<;>try refine ev_ ?_)|with_reducible exact ti_)
     all_goals first | (exfalso;omega)
   | false =>
     rw[hc] at hC
     rw[if_neg (by simp)]
     repeat'(first|refine vs_ ?_|(refine vr_ ?_<;>try simp only[h3i,h0,h1,hwr,Int.toNat_natCast,hM,go_sem,↓reduceIte])|((first|(refine cs_ ?_ ?_<;>intro hc)|refine cj_ ?_|refine qa hC fun _=>?_)<;>try refine ev_ ?_)|with_reducible exact ti_)
     all_goals first | (exfalso;omega)
  ·rw[if_pos (by simpa using h1)]
   repeat'(first|refine vs_ ?_|(refine vr_ ?_<;>try simp only[h3i,h0,h1,hwr,Int.toNat_natCast,go_sem,↓reduceIte])|((first|(refine cs_ ?_ ?_<;>intro hc)|refine cj_ ?_)<;>try refine ev_ ?_)|with_reducible exact ti_)
   all_goals first | (exfalso;omega)
 ·rw[if_pos (by simpa using h0)]
  repeat'(first|refine vs_ ?_|(refine vr_ ?_<;>try simp only[h3i,h0,go_sem,↓reduceIte])|((first|(refine cs_ ?_ ?_<;>intro hc)|refine cj_ ?_)<;>try refine ev_ ?_)|with_reducible exact ti_)
def q9z(t:Ty):Bool:=!decide (clR t.con=[])&&decide ((t.args.length:Int)=1)&&decide (t.var=0)
def q43(t:Ty):AV:=if q9z t=true then .tup [.str (clR t.con),encY (t.args.getD 0 Y0),.bool true] else .tup [.str [],encY Y0,.bool false]
theorem qvw(t:Ty):qj Tryz.prog 239 [encY t] (q43 t):=by
 refine qd c0fp (by simp) (by simp only[go_sem]) (by unfold q43;split<;>simp only[AV.bd,AV.bds,qx,Bool.and_true]) fun hw=>?_
 have hk:=qci hw.1
 have h1:=qwh t.con
 have hz:AV.agg [.str [],.int .i64 0,.sl 3 []]=encY Y0:=rfl
 unfold q43 q9z
 generalize clR t.con=c at *
 by_cases hc:c=[]
 ·subst hc
  rw[if_neg (by simp)]
  repeat'(first|refine vs_ ?_|(refine vr_ ?_<;>try simp only[hz,go_sem,↓reduceIte])|((first|(refine cs_ ?_ ?_<;>intro hc)|refine cj_ ?_|refine qa h1 fun _=>?_|refine qc h1 ?_)<;>try refine ev_ ?_)|with_reducible exact ti_)
 ·by_cases hn:(t.args.length:Int)=1
  ·by_cases hv:t.var=0
   ·rw[if_pos (by simp[hc,hn,hv])]
    have hg:=ql (l:=t.args) (i:=0) (by omega)
    repeat'(first|refine vs_ ?_|(refine vr_ ?_<;>try simp only[hz,hc,hn,hv,hg,go_sem,↓reduceIte])|((first|simp (disch:=omega) only[hg]|(refine cs_ ?_ ?_<;>intro hc)|refine cj_ ?_|refine qa h1 fun _=>?_|refine qc h1 ?_)<;>try refine ev_ ?_)|with_reducible exact ti_)
    all_goals first | (exfalso;omega) | contradiction
   ·rw[if_neg (by simp[hv])]
    repeat'(first|refine vs_ ?_|(refine vr_ ?_<;>try simp only[hz,hc,hn,hv,go_sem,↓reduceIte])|((first|(refine cs_ ?_ ?_<;>intro hc)|refine cj_ ?_|refine qa h1 fun _=>?_|refine qc h1 ?_)<;>try refine ev_ ?_)|with_reducible exact ti_)
    all_goals first | (exfalso;omega) | contradiction
  ·rw[if_neg (by simp[hn])]
   repeat'(first|refine vs_ ?_|(refine vr_ ?_<;>try simp only[hz,hc,hn,go_sem,↓reduceIte])|((first|(refine cs_ ?_ ?_<;>intro hc)|refine cj_ ?_|refine qa h1 fun _=>?_|refine qc h1 ?_)<;>try refine ev_ ?_)|with_reducible exact ti_)
   all_goals first | (exfalso;omega) | contradiction
set_option maxRecDepth 4000

def qqe(t:Ty):Ty:=.mk t.con t.var (List.replicate t.args.length Y0)
def q1g(t:Ty):Bool:=q9z t||(decide (4096≤t.args.length)||qi (qqe t))
mutual
def shR:Ty->Bool
 | .mk c v l=>shRs l&&q1g (.mk c v l)
def shRs:List Ty->Bool
 | []=>true
 | x::r=>shR x&&shRs r
end
theorem qcne(t:Ty):shR t=(shRs t.args&&q1g t):=by cases t;rw[shR];rfl
theorem qbb1(n:Nat):szYs (List.replicate n Y0)=n:=by
 induction n with
 | zero=>rfl
 | succ n ih=>rw[List.replicate_succ,szYs,ih,show szY Y0=1 from rfl];omega
def shSt(t:Ty)(i:Nat):AF×List Ent:=(⟨[(1,.ptr 0 0),(7,.ptr 1 0),(8,.int .i64 i)],[]⟩,[.blk (yc t),.blk [.str t.con,.int .i64 t.var,accV 2 (qf (List.replicate i Y0))]]++accE 3 (qf (List.replicate i Y0)))
set_option maxHeartbeats 1000000 in
theorem qvl:∀t,szY t≤1000000000->qj Tryz.prog 216 [encY t] (.bool (shR t)):=by
 refine Ty.ind fun t ih hb=>?_
 refine qd c0fm (by simp) (by simp only[go_sem]) rfl fun hw=>?_
 have hk:=qci hw.1
 have hsz:=qdr t
 have hal:=qen t.args
 have hz:AV.agg [.str [],.int .i64 0,.sl 3 []]=encY Y0:=rfl
 rw[qcne]
 repeat'(first|refine vs_ ?_|((first|refine vr_ ?_|(refine cs_ ?_ ?_<;>intro hc)|refine cj_ ?_)<;>try refine ev_ ?_)|with_reducible exact ti_)
 refine qk (S:=Nat) (fun i=>i≤t.args.length∧shRs (t.args.drop i)=shRs t.args) (fun i=>(⟨[(1,.ptr 0 0),(3,.int .i64 i)],[]⟩,[.blk (yc t)])) (fun i=>t.args.length-i) ?_ fun i hi=>?_
 ·refine qg 0 [0] ⟨Nat.zero_le _,rfl⟩ rfl (by simp) ?_ ?_ ?_<;>(try refine ev_ ?_)<;>(try with_reducible exact ti_)<;>(try simp (disch:=omega) only[qb,and_true,true_and])
 ·obtain⟨hi,ha⟩:=hi
  by_cases hlt:i<t.args.length
  ·have hg:=ql hlt
   have hltI:(i:Int)<(t.args.length:Int):=by omega
   have hcall:=ih _ (qba hlt) (by have:=qdp (qba hlt);omega)
   rw[qjt hlt,shRs] at ha
   generalize t.args.getD i Y0=x at *
   cases hx:shR x with
   | false =>
     rw[hx] at hcall ha
     rw[←ha]
     repeat'(first|refine vs_ ?_|(refine vr_ ?_<;>try simp (disch:=first|omega|(simp only[List.length_set,List.length_append,List.length_cons,List.length_nil];try omega)) only[hg,hltI,qb,go_sem,↓reduceIte])|((first|simp (disch:=omega) only[hg]|(refine cs_ ?_ ?_<;>intro hc)|refine cj_ ?_|refine qa hcall fun _=>?_|refine qc hcall ?_)<;>try refine ev_ ?_)|with_reducible exact ti_)
     all_goals first | (exfalso;omega)
   | true =>
     rw[hx] at hcall ha
     repeat'(first|refine vs_ ?_|(refine vr_ ?_<;>try simp (disch:=first|omega|(simp only[List.length_set,List.length_append,List.length_cons,List.length_nil];try omega)) only[hg,hltI,qb,go_sem,↓reduceIte])|((first|simp (disch:=omega) only[hg]|(refine cs_ ?_ ?_<;>intro hc)|refine cj_ ?_|refine qa hcall fun _=>?_|refine qc hcall ?_)<;>try refine ev_ ?_)|with_reducible exact ti_)
     all_goals try(exfalso;omega)
     refine qg (i+1) [0] ⟨⟨by omega,by rw[←ha];rfl⟩,by omega⟩ rfl (by simp) ?_ ?_ ?_<;>(try refine ev_ ?_)<;>(try with_reducible exact ti_)<;>(try simp (disch:=omega) only[qb,and_true,true_and])
     all_goals first | rfl | (rw[qo (by omega) (by omega),Int.natCast_add];rfl)
  ·rw[List.drop_of_length_le (by omega),shRs] at ha
   rw[←ha,Bool.true_and]
   have hn:¬(i:Int)<(t.args.length:Int):=by omega
   have hC:=qvw t
   cases hd:q9z t with
   | true =>
     rw[q43,if_pos hd] at hC
     have hl:q1g t=true:=by rw[q1g,hd];rfl
     rw[hl]
     repeat'(first|refine vs_ ?_|(refine vr_ ?_<;>try simp only[hn,hz,go_sem,↓reduceIte])|((first|(refine cs_ ?_ ?_<;>intro hc)|refine cj_ ?_|refine qa hC fun _=>?_|refine qc hC ?_)<;>try refine ev_ ?_)|with_reducible exact ti_)
     all_goals first | (exfalso;omega)
   | false =>
     rw[q43,if_neg (by rw[hd];simp)] at hC
     have hl:q1g t=(decide (4096≤t.args.length)||qi (qqe t)):=by rw[q1g,hd];rfl
     rw[hl]
     repeat'(first|refine vs_ ?_|(refine vr_ ?_<;>try simp only[hn,hz,go_sem,↓reduceIte])|((first|(refine cs_ ?_ ?_<;>intro hc)|refine cj_ ?_|refine qa hC fun _=>?_|refine qc hC ?_)<;>try refine ev_ ?_)|with_reducible exact ti_)
     have hV:=qum 0
     rw[show encY (.mk [] 0 [])=encY Y0 from rfl] at hV
     refine qk (S:=Nat) (fun i=>i≤t.args.length) (shSt t) (fun i=>t.args.length-i) ?_ fun i hi=>?_
     ·refine qg 0 [0,2] (Nat.zero_le _) rfl (by simp) ?_ ?_ ?_<;>simp only[shSt,List.replicate_zero,qf,qq,qw,List.append_nil]<;>(try refine ev_ ?_)<;>(try with_reducible exact ti_)<;>(try simp (disch:=omega) only[qb,and_true,true_and])
     ·unfold shSt
      have hol:(qf (List.replicate i Y0)).length=i:=by rw[q9,List.length_replicate]
      have hol2:(List.replicate i Y0).length=i:=List.length_replicate
      by_cases hlt:i<t.args.length
      ·have hltI:(i:Int)<(t.args.length:Int):=by omega
       have e1:qf (List.replicate i Y0)++[encY Y0]=qf (List.replicate (i+1) Y0):=by rw[qew,←List.replicate_succ']
       have c1:qbi (i+1) 48=True:=eq_true (by unfold qbi;omega)
       by_cases h0:i=0
       ·subst h0
        have n1:qf (List.replicate 0 Y0)=[]:=rfl
        rw[n1] at e1
        rw[n1]
        have hif0:(0:Int)<(t.args.length:Int):=by omega
        simp only[qq,qw,List.append_nil]
        repeat'(first|refine vs_ ?_|(refine vr_ ?_<;>try simp (disch:=first|omega|(simp only[List.length_set,List.length_append,List.length_cons,List.length_nil];try omega)) only[hif0,qb,c1,go_sem,↓reduceIte])|((first|(refine cs_ ?_ ?_<;>intro hc)|refine cj_ ?_|refine qa hV fun _=>?_|refine qc hV ?_)<;>try refine ev_ ?_)|with_reducible exact ti_)
        all_goals try(exfalso;omega)
        refine qg 1 [0,1,2] ⟨by omega,by omega⟩ rfl (by simp) ?_ ?_ ?_<;>simp only[shSt,←e1,List.nil_append,qc7,qej]<;>(try refine ev_ ?_)<;>(try with_reducible exact ti_)<;>(try simp (disch:=omega) only[qb,and_true,true_and])
        all_goals first | rfl
       ·have n1:qf (List.replicate i Y0)≠[]:=fun h=>h0 (by rw[←hol,h];rfl)
        simp only[q7 n1,qbc n1,hol]
        repeat'(first|refine vs_ ?_|(refine vr_ ?_<;>try simp (disch:=first|omega|(simp only[List.length_set,List.length_append,List.length_cons,List.length_nil];try omega)) only[hltI,hol,hol2,qb,c1,go_sem,↓reduceIte])|((first|(refine cs_ ?_ ?_<;>intro hc)|refine cj_ ?_|refine qa hV fun _=>?_|refine qc hV ?_)<;>try refine ev_ ?_)|with_reducible exact ti_)
        all_goals try(exfalso;omega)
        refine qg (i+1) [0,1,3] ⟨by omega,by omega⟩ rfl (by simp) ?_ ?_ ?_<;>simp only[shSt,←e1,qcm,qdh,hol,hol2]<;>(try refine ev_ ?_)<;>(try with_reducible exact ti_)<;>(try simp (disch:=omega) only[qb,and_true,true_and])
        all_goals first | (rw[e1];exact⟨qbm _ _,by rw[qc6]⟩) | (rw[qo (by omega) (by omega),Int.natCast_add];rfl)
      ·have hie:i=t.args.length:=by omega
       subst hie
       have hn:¬(t.args.length:Int)<(t.args.length:Int):=by omega
       have hfl:AV.agg [.str t.con,.int .i64 t.var,.sl 3 (qf (List.replicate t.args.length Y0))]=encY (qqe t):=by rw[←qbd];rfl
       by_cases hbig:4096≤t.args.length
       ·have hbi:(4096:Int)≤(t.args.length:Int):=by omega
        have n1:qf (List.replicate t.args.length Y0)≠[]:=fun h=>by rw[h] at hol;simp at hol;omega
        simp only[q7 n1,qbc n1,hol]
        rw[decide_eq_true hbig,Bool.true_or]
        repeat'(first|refine vs_ ?_|(refine vr_ ?_<;>try simp only[hn,hbi,go_sem,↓reduceIte])|((first|(refine cs_ ?_ ?_<;>intro hc)|refine cj_ ?_)<;>try refine ev_ ?_)|with_reducible exact ti_)
        all_goals first | (exfalso;omega)
       ·have hbi:¬(4096:Int)≤(t.args.length:Int):=by omega
        rw[decide_eq_false hbig,Bool.false_or]
        have hs1:szY (qqe t)≤20000:=by rw[qdr,show(qqe t).args=List.replicate t.args.length Y0 from rfl,qbb1];omega
        have hdp:dpY (qqe t)≤300:=by
         have:dpYs (qqe t).args≤1:=by
          rw[show(qqe t).args=List.replicate t.args.length Y0 from rfl]
          generalize t.args.length=m
          induction m with
          | zero=>exact Nat.zero_le _
          | succ m ihm=>rw[List.replicate_succ,dpYs,show dpY Y0=1 from rfl];omega
         have:=qrv (qqe t);omega
        have hL:=qds hs1 hdp
        by_cases h0:t.args=[]
        ·have n1:qf (List.replicate t.args.length Y0)=[]:=by rw[h0];rfl
         rw[n1] at hfl ⊢
         simp only[qq,qw,List.append_nil]
         rw[←hfl] at hL
         repeat'(first|refine vs_ ?_|(refine vr_ ?_<;>try simp only[hn,hbi,go_sem,↓reduceIte])|((first|(refine cs_ ?_ ?_<;>intro hc)|refine cj_ ?_|refine qa hL fun _=>?_|refine qc hL ?_)<;>try refine ev_ ?_)|with_reducible exact ti_)
         all_goals first | (exfalso;omega)
        ·have n1:qf (List.replicate t.args.length Y0)≠[]:=fun h=>h0 (List.length_eq_zero_iff.1 (by rw[←hol,h];rfl))
         simp only[q7 n1,qbc n1,hol]
         repeat'(first|refine vs_ ?_|(refine vr_ ?_<;>try simp only[hn,hbi,hol,hol2,hfl,go_sem,↓reduceIte])|((first|(refine cs_ ?_ ?_<;>intro hc)|refine cj_ ?_|refine qa hL fun _=>?_|refine qc hL ?_)<;>try refine ev_ ?_)|with_reducible exact ti_)
         all_goals first | (exfalso;omega)
/-! Legal -/
def lgR(t:Ty):Bool:=decide (qdf t≤4096)&&decide (qm2 t≤100)&&shR t
theorem qie(t:Ty)(hb:szY t≤1000000000):qj Tryz.prog 172 [encY t] (.bool (lgR t)):=by
 refine qd c0fn (by simp) (by simp only[go_sem]) rfl fun hw=>?_
 have h1:=qes t
 have h2:=ql5 t
 have h3:=qvl t hb
 unfold lgR
 generalize qdf t=a at *
 generalize qm2 t=b at *
 generalize shR t=c at *
 by_cases q1:a≤4096
 ·by_cases q2:b≤100
  ·rw[decide_eq_true q1,decide_eq_true q2]
   repeat'(first|refine vs_ ?_|(refine vr_ ?_<;>try simp only[q1,q2,go_sem,↓reduceIte])|((first|(refine cs_ ?_ ?_<;>intro hc)|refine cj_ ?_|fail|refine qa h1 fun _=>?_|refine qa h2 fun _=>?_|refine qa h3 fun _=>?_)<;>try refine ev_ ?_)|with_reducible exact ti_)
   all_goals first | (exfalso;omega)
  ·rw[decide_eq_true q1,decide_eq_false q2]
   repeat'(first|refine vs_ ?_|(refine vr_ ?_<;>try simp only[q1,q2,go_sem,↓reduceIte])|((first|(refine cs_ ?_ ?_<;>intro hc)|refine cj_ ?_|fail|refine qa h1 fun _=>?_|refine qa h2 fun _=>?_)<;>try refine ev_ ?_)|with_reducible exact ti_)
   all_goals first | (exfalso;omega)
 ·rw[decide_eq_false q1]
  repeat'(first|refine vs_ ?_|(refine vr_ ?_<;>try simp only[q1,go_sem,↓reduceIte])|((first|(refine cs_ ?_ ?_<;>intro hc)|refine cj_ ?_|fail|refine qa h1 fun _=>?_)<;>try refine ev_ ?_)|with_reducible exact ti_)
  all_goals first | (exfalso;omega)
set_option maxRecDepth 4000

def hasR(t:Tm)(nm:Bool)(n k:Int):Bool:=((!decide (t.name=[])) == nm)&&decide (t.num=0)&&decide ((t.vars.length:Int)=0)&&decide ((t.types.length:Int)=n)&&decide ((t.kids.length:Int)=k)
theorem qco(t:Tm)(nm:Bool)(n k:Int):qj Tryz.prog 166 [encT t,.bool nm,.int .i64 n,.int .i64 k] (.bool (hasR t nm n k)):=by
 refine qd c0fi (by simp) (by simp only[go_sem]) rfl fun hw=>?_
 obtain⟨hk1,hk2,hk3⟩:=qb8 hw.1
 repeat'(first|refine vs_ ?_|((first|refine vr_ ?_|(refine cs_ ?_ ?_<;>intro hc)|refine cj_ ?_)<;>try refine ev_ ?_)|with_reducible exact ti_)
 all_goals(unfold hasR;clear hw;grind)
def q1n(t:Tm)(k:Int):Bool:=decide (t.name=[])&&decide ((t.vars.length:Int)=0)&&decide ((t.types.length:Int)=0)&&decide ((t.kids.length:Int)=k)
theorem qkr(t:Tm)(k:Int):qj Tryz.prog 167 [encT t,.int .i64 k] (.bool (q1n t k)):=by
 refine qd c0fj (by simp) (by simp only[go_sem]) rfl fun hw=>?_
 obtain⟨hk1,hk2,hk3⟩:=qb8 hw.1
 repeat'(first|refine vs_ ?_|((first|refine vr_ ?_|(refine cs_ ?_ ?_<;>intro hc)|refine cj_ ?_)<;>try refine ev_ ?_)|with_reducible exact ti_)
 all_goals(unfold q1n;clear hw;grind)
theorem qn9{l:List Ty}(hb:∀x∈l,szY x≤1000000):qj Tryz.prog 168 [.sl 3 (qf l)] (.bool (l.all lgR)):=by
 refine qd c0fk (by simp) (by simp only[go_sem]) rfl fun hw=>?_
 have hl:l.length≤maxLen:=by have:=hw.1.1;rwa [q9] at this
 repeat'(first|refine vs_ ?_|((first|refine vr_ ?_|(refine cs_ ?_ ?_<;>intro hc)|refine cj_ ?_)<;>try refine ev_ ?_)|with_reducible exact ti_)
 refine qk (S:=Nat) (fun i=>i≤l.length∧(l.drop i).all lgR=l.all lgR) (fun i=>(⟨[(0,.sl 3 (qf l)),(3,.int .i64 i)],[]⟩,[])) (fun i=>l.length-i) ?_ fun i hi=>?_
 ·refine qg 0 [] ⟨Nat.zero_le _,rfl⟩ rfl (by simp) ?_ ?_ ?_<;>(try refine ev_ ?_)<;>(try with_reducible exact ti_)<;>(try simp (disch:=omega) only[qb,and_true,true_and])
 ·obtain⟨hi,ha⟩:=hi
  by_cases hlt:i<l.length
  ·have hg:=ql hlt
   have hltI:(i:Int)<(l.length:Int):=by omega
   have hcall:=qie _ (Nat.le_trans (hb _ (qba hlt)) (by decide))
   rw[qjt hlt,List.all_cons] at ha
   generalize l.getD i Y0=x at *
   cases hx:lgR x with
   | false =>
     rw[hx] at hcall ha
     rw[←ha]
     repeat'(first|refine vs_ ?_|(refine vr_ ?_<;>try simp (disch:=first|omega|(simp only[List.length_set,List.length_append,List.length_cons,List.length_nil];try omega)) only[hg,hltI,qb,go_sem,↓reduceIte])|((first|simp (disch:=omega) only[hg]|(refine cs_ ?_ ?_<;>intro hc)|refine cj_ ?_|refine qa hcall fun _=>?_)<;>try refine ev_ ?_)|with_reducible exact ti_)
     all_goals first | (exfalso;omega)
   | true =>
     rw[hx] at hcall ha
     repeat'(first|refine vs_ ?_|(refine vr_ ?_<;>try simp (disch:=first|omega|(simp only[List.length_set,List.length_append,List.length_cons,List.length_nil];try omega)) only[hg,hltI,qb,go_sem,↓reduceIte])|((first|simp (disch:=omega) only[hg]|(refine cs_ ?_ ?_<;>intro hc)|refine cj_ ?_|refine qa hcall fun _=>?_)<;>try refine ev_ ?_)|with_reducible exact ti_)
     all_goals try(exfalso;omega)
     refine qg (i+1) [] ⟨⟨by omega,by rw[←ha];rfl⟩,by omega⟩ rfl (by simp) ?_ ?_ ?_<;>(try refine ev_ ?_)<;>(try with_reducible exact ti_)<;>(try simp (disch:=omega) only[qb,and_true,true_and])
     all_goals first | rfl | (rw[qo (by omega) (by omega),Int.natCast_add];rfl)
  ·rw[List.drop_of_length_le (by omega)] at ha
   rw[←ha]
   have hn:¬(i:Int)<(l.length:Int):=by omega
   repeat'(first|refine vs_ ?_|(refine vr_ ?_<;>try simp only[hn,go_sem,↓reduceIte])|((first|(refine cs_ ?_ ?_<;>intro hc)|refine cj_ ?_)<;>try refine ev_ ?_)|with_reducible exact ti_)
   all_goals first | (exfalso;omega) | rfl
mutual
def lvTR:Tm->Int
 | .mk _ _ _ _ _ ks=>IntKind.i64.wrap (qvt 0 ks+1)
def qvt:Int->List Tm->Int
 | a,[]=>a
 | a,x::r=>qvt (if lvTR x > a then lvTR x else a) r
end
theorem qbw6(t:Tm):lvTR t=IntKind.i64.wrap (qvt 0 t.kids+1):=by cases t;rw[lvTR];rfl
theorem qt1:∀t,qj Tryz.prog 118 [encT t] (.int .i64 (lvTR t)):=by
 refine Tm.ind fun t ih=>?_
 refine qd c0fl (by simp) (by simp only[go_sem]) rfl fun hw=>?_
 obtain⟨hk1,hk2,hk3⟩:=qb8 hw.1
 rw[qbw6]
 repeat'(first|refine vs_ ?_|((first|refine vr_ ?_|(refine cs_ ?_ ?_<;>intro hc)|refine cj_ ?_)<;>try refine ev_ ?_)|with_reducible exact ti_)
 refine qk (S:=Nat×Int) (fun s=>s.1≤t.kids.length∧qvt s.2 (t.kids.drop s.1)=qvt 0 t.kids) (fun s=>(⟨[(1,.ptr 0 0),(3,.int .i64 s.2),(4,.int .i64 s.1)],[]⟩,[.blk (tmc t)])) (fun s=>t.kids.length-s.1) ?_ fun s hs=>?_
 ·refine qg (0,0) [0] ⟨Nat.zero_le _,rfl⟩ rfl (by simp) ?_ ?_ ?_<;>(try refine ev_ ?_)<;>(try with_reducible exact ti_)<;>(try simp (disch:=omega) only[qb,and_true,true_and])
 ·obtain⟨i,a⟩:=s
  obtain⟨hi,ha⟩:=hs
  dsimp only at hi ha
  by_cases hlt:i<t.kids.length
  ·have hcall:=ih _ (qbh hlt)
   rw[qfn hlt,qvt] at ha
   have hg:=qbe hlt
   have hltI:(i:Int)<(t.kids.length:Int):=by omega
   generalize t.kids.getD i T0=x at *
   repeat'(first|refine vs_ ?_|(refine vr_ ?_<;>try simp (disch:=first|omega|(simp only[List.length_set,List.length_append,List.length_cons,List.length_nil];try omega)) only[hg,hltI,qb,go_sem,↓reduceIte])|((first|simp (disch:=omega) only[hg]|(refine cs_ ?_ ?_<;>intro hc)|refine cj_ ?_|refine qa hcall fun _=>?_)<;>try refine ev_ ?_)|with_reducible exact ti_)
   all_goals try(exfalso;omega)
   refine qg (i+1,if lvTR x > a then lvTR x else a) [0] ⟨⟨by dsimp only;omega,ha⟩,by dsimp only;omega⟩ rfl (by simp) ?_ ?_ ?_<;>(try refine ev_ ?_)<;>(try with_reducible exact ti_)<;>(try simp (disch:=omega) only[qb,and_true,true_and])
  ·rw[List.drop_of_length_le (by omega),qvt] at ha
   have hltI:¬(i:Int)<(t.kids.length:Int):=by omega
   repeat'(first|refine vs_ ?_|(refine vr_ ?_<;>try simp only[hltI,go_sem,↓reduceIte])|((first|(refine cs_ ?_ ?_<;>intro hc)|refine cj_ ?_)<;>try refine ev_ ?_)|with_reducible exact ti_)
   all_goals first | (exfalso;omega) | (rw[←ha])
set_option maxRecDepth 4000

mutual
def patR:Tm->Bool
 | .mk k n s v t ks => if k = 21 then hasR (.mk k n s v t ks) true 0 0 else if k = 22 then hasR (.mk k n s v t ks) false 0 0 else if k = 23 then q1n (.mk k n s v t ks) 0 else
   if k=24 then qv3 ks&&hasR (.mk k n s v t ks) true 0 ks.length else false
def qv3:List Tm->Bool
 | []=>true
 | x::r=>patR x&&qv3 r
end
theorem qbmh(t:Tm):patR t=if t.kind=21 then hasR t true 0 0 else if t.kind=22 then hasR t false 0 0 else if t.kind=23 then q1n t 0 else if t.kind=24 then qv3 t.kids&&hasR t true 0 t.kids.length else false:=by cases t;rw[patR];rfl
theorem qvg:∀t,qj Tryz.prog 214 [encT t] (.bool (patR t)):=by
 refine Tm.ind fun t ih=>?_
 refine qd c0fh (by simp) (by simp only[go_sem]) rfl fun hw=>?_
 obtain⟨hk1,hk2,hk3⟩:=qb8 hw.1
 rw[qbmh]
 by_cases h1:t.kind=21
 ·rw[if_pos h1]
  have d1:decide (t.kind=21)=true:=decide_eq_true h1
  have hc:=qco t true 0 0
  repeat'(first|refine vs_ ?_|(refine vr_ ?_<;>try simp only[d1,go_sem,↓reduceIte])|((first|(refine cs_ ?_ ?_<;>intro hc)|refine cj_ ?_|refine qa hc fun _=>?_)<;>try refine ev_ ?_)|with_reducible exact ti_)
 rw[if_neg h1]
 have d1:decide (t.kind=21)=false:=decide_eq_false h1
 by_cases h2:t.kind=22
 ·rw[if_pos h2]
  have d2:decide (t.kind=22)=true:=decide_eq_true h2
  have hc:=qco t false 0 0
  repeat'(first|refine vs_ ?_|(refine vr_ ?_<;>try simp only[d1,d2,go_sem,↓reduceIte])|((first|(refine cs_ ?_ ?_<;>intro hc)|refine cj_ ?_|refine qa hc fun _=>?_)<;>try refine ev_ ?_)|with_reducible exact ti_)
 rw[if_neg h2]
 have d2:decide (t.kind=22)=false:=decide_eq_false h2
 by_cases h3:t.kind=23
 ·rw[if_pos h3]
  have d3:decide (t.kind=23)=true:=decide_eq_true h3
  have hc:=qkr t 0
  repeat'(first|refine vs_ ?_|(refine vr_ ?_<;>try simp only[d1,d2,d3,go_sem,↓reduceIte])|((first|(refine cs_ ?_ ?_<;>intro hc)|refine cj_ ?_|refine qa hc fun _=>?_)<;>try refine ev_ ?_)|with_reducible exact ti_)
 rw[if_neg h3]
 have d3:decide (t.kind=23)=false:=decide_eq_false h3
 by_cases h4:t.kind=24
 ·rw[if_pos h4]
  have d4:decide (t.kind=24)=true:=decide_eq_true h4
  have hc:=qco t true 0 t.kids.length
  repeat'(first|refine vs_ ?_|(refine vr_ ?_<;>try simp only[d1,d2,d3,d4,go_sem,↓reduceIte])|((first|(refine cs_ ?_ ?_<;>intro hc)|refine cj_ ?_)<;>try refine ev_ ?_)|with_reducible exact ti_)
  refine qk (S:=Nat) (fun i=>i≤t.kids.length∧qv3 (t.kids.drop i)=qv3 t.kids) (fun i=>(⟨[(1,.ptr 0 0),(3,.int .i64 i)],[]⟩,[.blk (tmc t)])) (fun i=>t.kids.length-i) ?_ fun i hi=>?_
  ·refine qg 0 [0] ⟨Nat.zero_le _,rfl⟩ rfl (by simp) ?_ ?_ ?_<;>(try refine ev_ ?_)<;>(try with_reducible exact ti_)<;>(try simp (disch:=omega) only[qb,and_true,true_and])
  ·obtain⟨hi,ha⟩:=hi
   by_cases hlt:i<t.kids.length
   ·have hg:=qbe hlt
    have hltI:(i:Int)<(t.kids.length:Int):=by omega
    have hcall:=ih _ (qbh hlt)
    rw[qfn hlt,qv3] at ha
    generalize t.kids.getD i T0=x at *
    cases hx:patR x with
    | false =>
      rw[hx] at hcall ha
      rw[←ha]
      repeat'(first|refine vs_ ?_|(refine vr_ ?_<;>try simp (disch:=first|omega|(simp only[List.length_set,List.length_append,List.length_cons,List.length_nil];try omega)) only[hg,hltI,qb,go_sem,↓reduceIte])|((first|simp (disch:=omega) only[hg]|(refine cs_ ?_ ?_<;>intro hc)|refine cj_ ?_|refine qa hcall fun _=>?_)<;>try refine ev_ ?_)|with_reducible exact ti_)
      all_goals first | (exfalso;omega)
    | true =>
      rw[hx] at hcall ha
      repeat'(first|refine vs_ ?_|(refine vr_ ?_<;>try simp (disch:=first|omega|(simp only[List.length_set,List.length_append,List.length_cons,List.length_nil];try omega)) only[hg,hltI,qb,go_sem,↓reduceIte])|((first|simp (disch:=omega) only[hg]|(refine cs_ ?_ ?_<;>intro hc)|refine cj_ ?_|refine qa hcall fun _=>?_)<;>try refine ev_ ?_)|with_reducible exact ti_)
      all_goals try(exfalso;omega)
      refine qg (i+1) [0] ⟨⟨by omega,by rw[←ha];rfl⟩,by omega⟩ rfl (by simp) ?_ ?_ ?_<;>(try refine ev_ ?_)<;>(try with_reducible exact ti_)<;>(try simp (disch:=omega) only[qb,and_true,true_and])
      all_goals first | rfl | (rw[qo (by omega) (by omega),Int.natCast_add];rfl)
   ·rw[List.drop_of_length_le (by omega),qv3] at ha
    rw[←ha,Bool.true_and]
    have hn:¬(i:Int)<(t.kids.length:Int):=by omega
    repeat'(first|refine vs_ ?_|(refine vr_ ?_<;>try simp only[hn,go_sem,↓reduceIte])|((first|(refine cs_ ?_ ?_<;>intro hc)|refine cj_ ?_|refine qa hc fun _=>?_)<;>try refine ev_ ?_)|with_reducible exact ti_)
    all_goals first | (exfalso;omega)
 ·rw[if_neg h4]
  have d4:decide (t.kind=24)=false:=decide_eq_false h4
  repeat'(first|refine vs_ ?_|(refine vr_ ?_<;>try simp only[d1,d2,d3,d4,go_sem,↓reduceIte])|((first|(refine cs_ ?_ ?_<;>intro hc)|refine cj_ ?_)<;>try refine ev_ ?_)|with_reducible exact ti_)
set_option maxRecDepth 4000

def okRT(f:Tm->Bool)(t:Tm):Prop:=qj Tryz.prog 119 [encT t] (.bool (f t))
theorem q3d{f:Tm->Bool}{t:Tm}(h:∀x∈t.kids,okRT f x):qj Tryz.prog 169 [encT t,.int .i64 0] (.bool (t.kids.all f)):=by
 refine qd c0ff (by simp) (by simp only[go_sem]) rfl fun hw=>?_
 obtain⟨hk1,hk2,hk3⟩:=qb8 hw.1
 repeat'(first|refine vs_ ?_|((first|refine vr_ ?_|(refine cs_ ?_ ?_<;>intro hc)|refine cj_ ?_)<;>try refine ev_ ?_)|with_reducible exact ti_)
 refine qk (S:=Nat) (fun i=>i≤t.kids.length∧(t.kids.drop i).all f=t.kids.all f) (fun i=>(⟨[(2,.ptr 0 0),(5,.int .i64 i)],[]⟩,[.blk (tmc t)])) (fun i=>t.kids.length-i) ?_ fun i hi=>?_
 ·refine qg 0 [0] ⟨Nat.zero_le _,rfl⟩ rfl (by simp) ?_ ?_ ?_<;>(try refine ev_ ?_)<;>(try with_reducible exact ti_)<;>(try simp (disch:=omega) only[qb,and_true,true_and])
 ·obtain⟨hi,ha⟩:=hi
  by_cases hlt:i<t.kids.length
  ·have hg:=qbe hlt
   have hltI:(i:Int)<(t.kids.length:Int):=by omega
   have hcall:qj Tryz.prog 119 [encT (t.kids.getD i T0)] (.bool (f (t.kids.getD i T0))):=h _ (qbh hlt)
   rw[qfn hlt,List.all_cons] at ha
   generalize t.kids.getD i T0=x at *
   cases hx:f x with
   | false =>
     rw[hx] at hcall ha
     rw[←ha]
     repeat'(first|refine vs_ ?_|(refine vr_ ?_<;>try simp (disch:=first|omega|(simp only[List.length_set,List.length_append,List.length_cons,List.length_nil];try omega)) only[hg,hltI,qb,go_sem,↓reduceIte])|((first|simp (disch:=omega) only[hg]|(refine cs_ ?_ ?_<;>intro hc)|refine cj_ ?_|refine qa hcall fun _=>?_)<;>try refine ev_ ?_)|with_reducible exact ti_)
     all_goals first | (exfalso;omega)
   | true =>
     rw[hx] at hcall ha
     repeat'(first|refine vs_ ?_|(refine vr_ ?_<;>try simp (disch:=first|omega|(simp only[List.length_set,List.length_append,List.length_cons,List.length_nil];try omega)) only[hg,hltI,qb,go_sem,↓reduceIte])|((first|simp (disch:=omega) only[hg]|(refine cs_ ?_ ?_<;>intro hc)|refine cj_ ?_|refine qa hcall fun _=>?_)<;>try refine ev_ ?_)|with_reducible exact ti_)
     all_goals try(exfalso;omega)
     refine qg (i+1) [0] ⟨⟨by omega,by rw[←ha];rfl⟩,by omega⟩ rfl (by simp) ?_ ?_ ?_<;>(try refine ev_ ?_)<;>(try with_reducible exact ti_)<;>(try simp (disch:=omega) only[qb,and_true,true_and])
     all_goals first | rfl | (rw[qo (by omega) (by omega),Int.natCast_add];rfl)
  ·rw[List.drop_of_length_le (by omega)] at ha
   rw[←ha]
   have hn:¬(i:Int)<(t.kids.length:Int):=by omega
   repeat'(first|refine vs_ ?_|(refine vr_ ?_<;>try simp only[hn,go_sem,↓reduceIte])|((first|(refine cs_ ?_ ?_<;>intro hc)|refine cj_ ?_)<;>try refine ev_ ?_)|with_reducible exact ti_)
   all_goals first | (exfalso;omega) | rfl
def q2g(f:Tm->Bool)(t:Tm):Bool:=decide (t.kind=11)&&!decide (t.name=[])&&decide (t.num=0)&&decide ((t.types.length:Int)=1)&&t.types.all lgR&&decide ((t.kids.length:Int)=1)&&f (t.kids.getD 0 T0)
theorem qte{f:Tm->Bool}{t:Tm}(hsm:smT t)(h:∀x∈t.kids,okRT f x):qj Tryz.prog 215 [encT t] (.bool (q2g f t)):=by
 refine qd c0fg (by simp) (by simp only[go_sem]) rfl fun hw=>?_
 obtain⟨hk1,hk2,hk3⟩:=qb8 hw.1
 obtain⟨m1,m2,m3,m4⟩:=(qh8 t).1 hsm
 have hT:=qn9 m1
 unfold q2g
 generalize t.types.all lgR=b at *
 by_cases hn:(t.kids.length:Int)=1
 ·have hg:=qbe (l:=t.kids) (i:=0) (by omega)
  have hcall:qj Tryz.prog 119 [encT (t.kids.getD 0 T0)] (.bool (f (t.kids.getD 0 T0))):=h _ (qbh (by omega))
  generalize f (t.kids.getD 0 T0)=c at *
  repeat'(first|refine vs_ ?_|(refine vr_ ?_<;>try simp only[hn,hg,go_sem,↓reduceIte])|((first|simp (disch:=omega) only[hg]|(refine cs_ ?_ ?_<;>intro hc)|refine cj_ ?_|refine qa hT fun _=>?_|refine qa hcall fun _=>?_)<;>try refine ev_ ?_)|with_reducible exact ti_)
  all_goals first | (exfalso;omega) | (clear hw h hT hcall hsm m1 m4;grind)
 ·repeat'(first|refine vs_ ?_|(refine vr_ ?_<;>try simp only[hn,go_sem,↓reduceIte])|((first|(refine cs_ ?_ ?_<;>intro hc)|refine cj_ ?_|refine qa hT fun _=>?_)<;>try refine ev_ ?_)|with_reducible exact ti_)
  all_goals first | (exfalso;omega) | (clear hw h hT hsm m1 m4;grind)
set_option maxRecDepth 4000

def altR(f:Tm->Bool)(k:Tm):Bool:=decide (k.kind=9)&&hasR k false 0 2&&patR (k.kids.getD 0 T0)&&f (k.kids.getD 1 T0)
def qcd2(f:Tm->Bool)(t:Tm):Bool:=!decide ((t.kids.length:Int)<2)&&hasR t false 0 t.kids.length&&f (t.kids.getD 0 T0)&&(t.kids.drop 1).all (altR f)
theorem q59{t:Tm}{nm:Bool}{n k:Int}(h:hasR t nm n k=true):(t.kids.length:Int)=k:=by
 unfold hasR at h
 rw[Bool.and_eq_true] at h
 exact of_decide_eq_true h.2
theorem q0k{f:Tm->Bool}{t:Tm}(h:∀x∈t.kids,okRT f x)(h2:∀k∈t.kids,∀x∈k.kids,okRT f x):qj Tryz.prog 170 [encT t] (.bool (qcd2 f t)):=by
 refine qd c0fe (by simp) (by simp only[go_sem]) rfl fun hw=>?_
 obtain⟨hk1,hk2,hk3⟩:=qb8 hw.1
 have hH:=qco t false 0 t.kids.length
 unfold qcd2
 generalize hasR t false 0 t.kids.length=b at *
 by_cases hn:(t.kids.length:Int)<2
 ·rw[decide_eq_true hn]
  repeat'(first|refine vs_ ?_|(refine vr_ ?_<;>try simp only[hn,go_sem,↓reduceIte])|((first|(refine cs_ ?_ ?_<;>intro hc)|refine cj_ ?_)<;>try refine ev_ ?_)|with_reducible exact ti_)
 rw[decide_eq_false hn]
 have hg0:=qbe (l:=t.kids) (i:=0) (by omega)
 have hc0:qj Tryz.prog 119 [encT (t.kids.getD 0 T0)] (.bool (f (t.kids.getD 0 T0))):=h _ (qbh (by omega))
 generalize f (t.kids.getD 0 T0)=c at *
 cases b with
 | false =>
   repeat'(first|refine vs_ ?_|(refine vr_ ?_<;>try simp only[hn,go_sem,↓reduceIte])|((first|(refine cs_ ?_ ?_<;>intro hc)|refine cj_ ?_|refine qa hH fun _=>?_)<;>try refine ev_ ?_)|with_reducible exact ti_)
 | true => cases c with
   | false =>
     repeat'(first|refine vs_ ?_|(refine vr_ ?_<;>try simp only[hn,hg0,go_sem,↓reduceIte])|((first|simp (disch:=omega) only[hg0]|(refine cs_ ?_ ?_<;>intro hc)|refine cj_ ?_|refine qa hH fun _=>?_|refine qa hc0 fun _=>?_)<;>try refine ev_ ?_)|with_reducible exact ti_)
     all_goals first | (exfalso;omega)
   | true =>
     simp only[Bool.not_false,Bool.true_and]
     repeat'(first|refine vs_ ?_|(refine vr_ ?_<;>try simp only[hn,hg0,go_sem,↓reduceIte])|((first|simp (disch:=omega) only[hg0]|(refine cs_ ?_ ?_<;>intro hc)|refine cj_ ?_|refine qa hH fun _=>?_|refine qa hc0 fun _=>?_)<;>try refine ev_ ?_)|with_reducible exact ti_)
     all_goals try(exfalso;omega)
     refine qk (S:=Nat) (fun i=>1≤i∧i≤t.kids.length∧(t.kids.drop i).all (altR f)=(t.kids.drop 1).all (altR f)) (fun i=>(⟨[(1,.ptr 0 0),(3,.int .i64 i)],[]⟩,[.blk (tmc t)])) (fun i=>t.kids.length-i) ?_ fun i hi=>?_
     ·refine qg 1 [0] ⟨Nat.le_refl _,by omega,rfl⟩ rfl (by simp) ?_ ?_ ?_<;>(try refine ev_ ?_)<;>(try with_reducible exact ti_)<;>(try simp (disch:=omega) only[qb,and_true,true_and])
      all_goals first | rfl
     ·obtain⟨hi1,hi,ha⟩:=hi
      by_cases hlt:i<t.kids.length
      ·have hg:=qbe hlt
       have hltI:(i:Int)<(t.kids.length:Int):=by omega
       have hk2:=h2 _ (qbh hlt)
       rw[qfn hlt,List.all_cons] at ha
       generalize t.kids.getD i T0=x at *
       have hX:=qco x false 0 2
       have hdef:altR f x=(decide (x.kind=9)&&hasR x false 0 2&&patR (x.kids.getD 0 T0)&&f (x.kids.getD 1 T0)):=rfl
       have hkk:hasR x false 0 2=true->(x.kids.length:Int)=2:=q59
       by_cases c9:x.kind=9
       ·have d9:decide (x.kind=9)=true:=decide_eq_true c9
        cases hh:hasR x false 0 2 with
        | false =>
          rw[hh] at hX
          have hf:altR f x=false:=by rw[hdef,hh];simp
          rw[hf] at ha
          rw[←ha]
          repeat'(first|refine vs_ ?_|(refine vr_ ?_<;>try simp (disch:=first|omega|(simp only[List.length_set,List.length_append,List.length_cons,List.length_nil];try omega)) only[hg,hltI,d9,qb,go_sem,↓reduceIte])|((first|simp (disch:=omega) only[hg]|(refine cs_ ?_ ?_<;>intro hc)|refine cj_ ?_|refine qa hX fun _=>?_)<;>try refine ev_ ?_)|with_reducible exact ti_)
          all_goals first | (exfalso;omega)
        | true =>
          rw[hh] at hX
          have hl:=hkk hh
          have g0:=qbe (l:=x.kids) (i:=0) (by omega)
          have g1:=qbe (l:=x.kids) (i:=1) (by omega)
          have p0:=qvg (x.kids.getD 0 T0)
          have p1:qj Tryz.prog 119 [encT (x.kids.getD 1 T0)] (.bool (f (x.kids.getD 1 T0))):=hk2 _ (qbh (by omega))
          have hf:altR f x=(patR (x.kids.getD 0 T0)&&f (x.kids.getD 1 T0)):=by rw[hdef,hh,d9];simp
          generalize patR (x.kids.getD 0 T0)=u at *
          generalize f (x.kids.getD 1 T0)=v at *
          rw[hf] at ha
          cases u with
          | false =>
            rw[←ha]
            repeat'(first|refine vs_ ?_|(refine vr_ ?_<;>try simp (disch:=first|omega|(simp only[List.length_set,List.length_append,List.length_cons,List.length_nil];try omega)) only[hg,hltI,d9,g0,qb,go_sem,↓reduceIte])|((first|simp (disch:=omega) only[hg]|simp (disch:=omega) only[g0]|(refine cs_ ?_ ?_<;>intro hc)|refine cj_ ?_|refine qa hX fun _=>?_|refine qa p0 fun _=>?_)<;>try refine ev_ ?_)|with_reducible exact ti_)
            all_goals first | (exfalso;omega)
          | true => cases v with
            | false =>
              rw[←ha]
              repeat'(first|refine vs_ ?_|(refine vr_ ?_<;>try simp (disch:=first|omega|(simp only[List.length_set,List.length_append,List.length_cons,List.length_nil];try omega)) only[hg,hltI,d9,g0,g1,qb,go_sem,↓reduceIte])|((first|simp (disch:=omega) only[hg]|simp (disch:=omega) only[g0]|simp (disch:=omega) only[g1]|(refine cs_ ?_ ?_<;>intro hc)|refine cj_ ?_|refine qa hX fun _=>?_|refine qa p0 fun _=>?_|refine qa p1 fun _=>?_)<;>try refine ev_ ?_)|with_reducible exact ti_)
              all_goals first | (exfalso;omega)
            | true =>
              repeat'(first|refine vs_ ?_|(refine vr_ ?_<;>try simp (disch:=first|omega|(simp only[List.length_set,List.length_append,List.length_cons,List.length_nil];try omega)) only[hg,hltI,d9,g0,g1,qb,go_sem,↓reduceIte])|((first|simp (disch:=omega) only[hg]|simp (disch:=omega) only[g0]|simp (disch:=omega) only[g1]|(refine cs_ ?_ ?_<;>intro hc)|refine cj_ ?_|refine qa hX fun _=>?_|refine qa p0 fun _=>?_|refine qa p1 fun _=>?_)<;>try refine ev_ ?_)|with_reducible exact ti_)
              all_goals try(exfalso;omega)
              refine qg (i+1) [0] ⟨⟨by omega,by omega,by rw[←ha];rfl⟩,by omega⟩ rfl (by simp) ?_ ?_ ?_<;>(try refine ev_ ?_)<;>(try with_reducible exact ti_)<;>(try simp (disch:=omega) only[qb,and_true,true_and])
              all_goals first | rfl | (rw[qo (by omega) (by omega),Int.natCast_add];rfl)
       ·have d9:decide (x.kind=9)=false:=decide_eq_false c9
        have hf:altR f x=false:=by rw[hdef,d9];simp
        rw[hf] at ha
        rw[←ha]
        repeat'(first|refine vs_ ?_|(refine vr_ ?_<;>try simp (disch:=first|omega|(simp only[List.length_set,List.length_append,List.length_cons,List.length_nil];try omega)) only[hg,hltI,d9,qb,go_sem,↓reduceIte])|((first|simp (disch:=omega) only[hg]|(refine cs_ ?_ ?_<;>intro hc)|refine cj_ ?_)<;>try refine ev_ ?_)|with_reducible exact ti_)
        all_goals first | (exfalso;omega)
      ·rw[List.drop_of_length_le (by omega)] at ha
       rw[←ha]
       have hnn:¬(i:Int)<(t.kids.length:Int):=by omega
       repeat'(first|refine vs_ ?_|(refine vr_ ?_<;>try simp only[hnn,go_sem,↓reduceIte])|((first|(refine cs_ ?_ ?_<;>intro hc)|refine cj_ ?_)<;>try refine ev_ ?_)|with_reducible exact ti_)
       all_goals first | (exfalso;omega) | rfl
set_option maxRecDepth 4000

def letR(f:Tm->Bool)(t:Tm):Bool:=!decide (t.kids.length=0)&&hasR t false 0 t.kids.length&&(t.kids.take (t.kids.length-1)).all (q2g f)&&f (t.kids.getD (t.kids.length-1) T0)
theorem q2z{f:Tm->Bool}{t:Tm}(hsm:smT t)(h:∀x∈t.kids,okRT f x)(h2:∀k∈t.kids,∀x∈k.kids,okRT f x):qj Tryz.prog 171 [encT t] (.bool (letR f t)):=by
 refine qd c0fd (by simp) (by simp only[go_sem]) rfl fun hw=>?_
 obtain⟨hk1,hk2,hk3⟩:=qb8 hw.1
 have hml:maxLen=9223372036854775807:=rfl
 have hks:=qjf ((qh8 t).1 hsm).2.2.2
 have hH:=qco t false 0 t.kids.length
 unfold letR
 generalize hasR t false 0 t.kids.length=b at *
 by_cases hn:t.kids.length=0
 ·rw[decide_eq_true hn]
  have hwr:IntKind.i64.wrap ((t.kids.length:Int)-1) = -1:=by rw[hn];rfl
  repeat'(first|refine vs_ ?_|(refine vr_ ?_<;>try simp only[hwr,Int.reduceLT,Int.reduceNeg,decide_true,decide_false,Bool.false_eq_true,go_sem,↓reduceIte])|((first|(refine cs_ ?_ ?_<;>intro hc)|refine cj_ ?_)<;>try refine ev_ ?_)|with_reducible exact ti_)
  all_goals first | (exfalso;omega)
 rw[decide_eq_false hn]
 have hwr:IntKind.i64.wrap ((t.kids.length:Int)-1)=((t.kids.length-1:Nat):Int):=by rw[qo (by omega) (by omega)];omega
 have hwr2:IntKind.i64.wrap (((t.kids.length-1:Nat):Int)+1)=(t.kids.length:Int):=by rw[qo (by omega) (by omega)];omega
 have hpos:¬((t.kids.length-1:Nat):Int)<0:=by omega
 have hgl:=qbe (l:=t.kids) (i:=t.kids.length-1) (by omega)
 have hcl:qj Tryz.prog 119 [encT (t.kids.getD (t.kids.length-1) T0)] (.bool (f (t.kids.getD (t.kids.length-1) T0))):=h _ (qbh (by omega))
 cases b with
 | false =>
   repeat'(first|refine vs_ ?_|(refine vr_ ?_<;>try simp only[hwr,hwr2,hpos,go_sem,↓reduceIte])|((first|(refine cs_ ?_ ?_<;>intro hc)|refine cj_ ?_|refine qa hH fun _=>?_)<;>try refine ev_ ?_)|with_reducible exact ti_)
   all_goals first | (exfalso;omega)
 | true =>
   simp only[Bool.not_false,Bool.true_and]
   obtain⟨m,hm⟩:∃m,t.kids.length-1=m:=⟨_,rfl⟩
   have hml2:m<t.kids.length:=by omega
   rw[hm] at hwr hwr2 hpos hgl hcl ⊢
   repeat'(first|refine vs_ ?_|(refine vr_ ?_<;>try simp only[hwr,hwr2,hpos,go_sem,↓reduceIte])|((first|(refine cs_ ?_ ?_<;>intro hc)|refine cj_ ?_|refine qa hH fun _=>?_)<;>try refine ev_ ?_)|with_reducible exact ti_)
   all_goals try(exfalso;omega)
   refine qk (S:=Nat) (fun i=>i≤m∧(t.kids.take i).all (q2g f)=true) (fun i=>(⟨[(1,.ptr 0 0),(3,.int .i64 m),(4,.int .i64 i)],[]⟩,[.blk (tmc t)])) (fun i=>m-i) ?_ fun i hi=>?_
   ·refine qg 0 [0] ⟨Nat.zero_le _,rfl⟩ rfl (by simp) ?_ ?_ ?_<;>(try refine ev_ ?_)<;>(try with_reducible exact ti_)<;>(try simp (disch:=omega) only[qb,and_true,true_and])
    all_goals first | rfl
   ·obtain⟨hi,ha⟩:=hi
    by_cases hlt:i<m
    ·have hg:=qbe (l:=t.kids) (i:=i) (by omega)
     have hltI:(i:Int)<(m:Int):=by omega
     have hmem:=qbh (l:=t.kids) (i:=i) (by omega)
     have hcall:=qte (hks _ hmem) (h2 _ hmem)
     have hsn:t.kids.take (i+1)=t.kids.take i++[t.kids.getD i T0]:=by rw[List.take_add_one,List.getD_eq_getElem?_getD,List.getElem?_eq_getElem (by omega)];rfl
     have hin:t.kids.getD i T0∈t.kids.take m:=by
      rw[List.getD_eq_getElem?_getD,List.getElem?_eq_getElem (by omega)]
      exact List.mem_take_iff_getElem.2 ⟨i,by omega,rfl⟩
     generalize t.kids.getD i T0=x at *
     cases hx:q2g f x with
     | false =>
       rw[hx] at hcall
       have hf:(t.kids.take m).all (q2g f)=false:=by rw[List.all_eq_false];exact⟨x,hin,by rw[hx];simp⟩
       rw[hf,Bool.false_and]
       repeat'(first|refine vs_ ?_|(refine vr_ ?_<;>try simp (disch:=first|omega|(simp only[List.length_set,List.length_append,List.length_cons,List.length_nil];try omega)) only[hg,hltI,qb,go_sem,↓reduceIte])|((first|simp (disch:=omega) only[hg]|(refine cs_ ?_ ?_<;>intro hc)|refine cj_ ?_|refine qa hcall fun _=>?_)<;>try refine ev_ ?_)|with_reducible exact ti_)
       all_goals first | (exfalso;omega)
     | true =>
       rw[hx] at hcall
       repeat'(first|refine vs_ ?_|(refine vr_ ?_<;>try simp (disch:=first|omega|(simp only[List.length_set,List.length_append,List.length_cons,List.length_nil];try omega)) only[hg,hltI,qb,go_sem,↓reduceIte])|((first|simp (disch:=omega) only[hg]|(refine cs_ ?_ ?_<;>intro hc)|refine cj_ ?_|refine qa hcall fun _=>?_)<;>try refine ev_ ?_)|with_reducible exact ti_)
       all_goals try(exfalso;omega)
       refine qg (i+1) [0] ⟨⟨by omega,by rw[hsn,List.all_append,ha];simp[hx]⟩,by omega⟩ rfl (by simp) ?_ ?_ ?_<;>(try refine ev_ ?_)<;>(try with_reducible exact ti_)<;>(try simp (disch:=omega) only[qb,and_true,true_and])
       all_goals first | rfl | (rw[qo (by omega) (by omega),Int.natCast_add];rfl)
    ·have hie:i=m:=by omega
     subst hie
     rw[ha,Bool.true_and]
     have hnn:¬(i:Int)<(i:Int):=by omega
     generalize f (t.kids.getD i T0)=c at *
     repeat'(first|refine vs_ ?_|(refine vr_ ?_<;>try simp only[hnn,hgl,go_sem,↓reduceIte])|((first|simp (disch:=omega) only[hgl]|(refine cs_ ?_ ?_<;>intro hc)|refine cj_ ?_|refine qa hcl fun _=>?_)<;>try refine ev_ ?_)|with_reducible exact ti_)
     all_goals first | (exfalso;omega)
set_option maxRecDepth 4000

def stpR(f:Tm->Bool)(t:Tm):Bool :=
 if t.kind=1 then hasR t true 0 0 else
 if t.kind=2 then q1n t 0 else
 if t.kind=14 then q1n t 0 else
 if t.kind=3 then hasR t true 1 1&&t.types.all lgR&&t.kids.all f else
 if t.kind=4 then hasR t false 0 2&&t.kids.all f else
 if t.kind=5 then decide (t.name=[])&&decide (t.num=0)&&decide ((t.types.length:Int)=0)&&decide ((t.kids.length:Int)=1)&&t.kids.all f else
 if t.kind=6 then hasR t false t.types.length 1&&t.types.all lgR&&t.kids.all f else
 if t.kind=7 then hasR t true t.types.length 0&&t.types.all lgR else
 if t.kind=8 then qcd2 f t else
 if t.kind=10 then letR f t else
 if t.kind=12 then hasR t true 1 t.kids.length&&t.types.all lgR&&t.kids.all f else
 if t.kind=13 then !decide (t.name=[])&&!decide (t.num<0)&&decide ((t.vars.length:Int)=0)&&decide ((t.types.length:Int)=0)&&decide ((t.kids.length:Int)=1)&&t.kids.all f else
 false
set_option maxHeartbeats 4000000 in
theorem qv1{f:Tm->Bool}{t:Tm}(hsm:smT t)(h:∀x∈t.kids,okRT f x)(h2:∀k∈t.kids,∀x∈k.kids,okRT f x):okRT (stpR f) t:=by
 unfold okRT
 refine qd c0fc (by simp) (by simp only[go_sem]) rfl fun hw=>?_
 obtain⟨hk1,hk2,hk3⟩:=qb8 hw.1
 have hks:=qjf ((qh8 t).1 hsm).2.2.2
 have m1:=((qh8 t).1 hsm).1
 have hT:=qn9 m1
 have hA:=q3d h
 unfold stpR
 by_cases c1:t.kind=1
 ·rw[if_pos c1]
  have e1:decide (t.kind=1)=true:=decide_eq_true c1
  repeat'(first|refine vs_ ?_|(refine vr_ ?_<;>try simp only[e1,go_sem,↓reduceIte])|((first|(refine cs_ ?_ ?_<;>intro hc)|refine cj_ ?_|fail|refine qa (qco t true 0 0) fun _=>?_)<;>try refine ev_ ?_)|with_reducible exact ti_)
  all_goals first | (exfalso;omega) | (clear hw h h2 hT hA hsm hks m1;grind)
 rw[if_neg c1]
 have e1:decide (t.kind=1)=false:=decide_eq_false c1
 by_cases c2:t.kind=2
 ·rw[if_pos c2]
  have e2:decide (t.kind=2)=true:=decide_eq_true c2
  repeat'(first|refine vs_ ?_|(refine vr_ ?_<;>try simp only[e1,e2,go_sem,↓reduceIte])|((first|(refine cs_ ?_ ?_<;>intro hc)|refine cj_ ?_|fail|refine qa (qkr t 0) fun _=>?_)<;>try refine ev_ ?_)|with_reducible exact ti_)
  all_goals first | (exfalso;omega) | (clear hw h h2 hT hA hsm hks m1;grind)
 rw[if_neg c2]
 have e2:decide (t.kind=2)=false:=decide_eq_false c2
 by_cases c14:t.kind=14
 ·rw[if_pos c14]
  have e14:decide (t.kind=14)=true:=decide_eq_true c14
  repeat'(first|refine vs_ ?_|(refine vr_ ?_<;>try simp only[e1,e2,e14,go_sem,↓reduceIte])|((first|(refine cs_ ?_ ?_<;>intro hc)|refine cj_ ?_|fail|refine qa (qkr t 0) fun _=>?_)<;>try refine ev_ ?_)|with_reducible exact ti_)
  all_goals first | (exfalso;omega) | (clear hw h h2 hT hA hsm hks m1;grind)
 rw[if_neg c14]
 have e14:decide (t.kind=14)=false:=decide_eq_false c14
 by_cases c3:t.kind=3
 ·rw[if_pos c3]
  have e3:decide (t.kind=3)=true:=decide_eq_true c3
  repeat'(first|refine vs_ ?_|(refine vr_ ?_<;>try simp only[e1,e2,e14,e3,go_sem,↓reduceIte])|((first|(refine cs_ ?_ ?_<;>intro hc)|refine cj_ ?_|fail|refine qa (qco t true 1 1) fun _=>?_|refine qa hT fun _=>?_|refine qa hA fun _=>?_)<;>try refine ev_ ?_)|with_reducible exact ti_)
  all_goals first | (exfalso;omega) | (clear hw h h2 hT hA hsm hks m1;grind)
 rw[if_neg c3]
 have e3:decide (t.kind=3)=false:=decide_eq_false c3
 by_cases c4:t.kind=4
 ·rw[if_pos c4]
  have e4:decide (t.kind=4)=true:=decide_eq_true c4
  repeat'(first|refine vs_ ?_|(refine vr_ ?_<;>try simp only[e1,e2,e14,e3,e4,go_sem,↓reduceIte])|((first|(refine cs_ ?_ ?_<;>intro hc)|refine cj_ ?_|fail|refine qa (qco t false 0 2) fun _=>?_|refine qa hA fun _=>?_)<;>try refine ev_ ?_)|with_reducible exact ti_)
  all_goals first | (exfalso;omega) | (clear hw h h2 hT hA hsm hks m1;grind)
 rw[if_neg c4]
 have e4:decide (t.kind=4)=false:=decide_eq_false c4
 by_cases c5:t.kind=5
 ·rw[if_pos c5]
  have e5:decide (t.kind=5)=true:=decide_eq_true c5
  repeat'(first|refine vs_ ?_|(refine vr_ ?_<;>try simp only[e1,e2,e14,e3,e4,e5,go_sem,↓reduceIte])|((first|(refine cs_ ?_ ?_<;>intro hc)|refine cj_ ?_|fail|refine qa hA fun _=>?_)<;>try refine ev_ ?_)|with_reducible exact ti_)
  all_goals first | (exfalso;omega) | (clear hw h h2 hT hA hsm hks m1;grind)
 rw[if_neg c5]
 have e5:decide (t.kind=5)=false:=decide_eq_false c5
 by_cases c6:t.kind=6
 ·rw[if_pos c6]
  have e6:decide (t.kind=6)=true:=decide_eq_true c6
  repeat'(first|refine vs_ ?_|(refine vr_ ?_<;>try simp only[e1,e2,e14,e3,e4,e5,e6,go_sem,↓reduceIte])|((first|(refine cs_ ?_ ?_<;>intro hc)|refine cj_ ?_|fail|refine qa (qco t false t.types.length 1) fun _=>?_|refine qa hT fun _=>?_|refine qa hA fun _=>?_)<;>try refine ev_ ?_)|with_reducible exact ti_)
  all_goals first | (exfalso;omega) | (clear hw h h2 hT hA hsm hks m1;grind)
 rw[if_neg c6]
 have e6:decide (t.kind=6)=false:=decide_eq_false c6
 by_cases c7:t.kind=7
 ·rw[if_pos c7]
  have e7:decide (t.kind=7)=true:=decide_eq_true c7
  repeat'(first|refine vs_ ?_|(refine vr_ ?_<;>try simp only[e1,e2,e14,e3,e4,e5,e6,e7,go_sem,↓reduceIte])|((first|(refine cs_ ?_ ?_<;>intro hc)|refine cj_ ?_|fail|refine qa (qco t true t.types.length 0) fun _=>?_|refine qa hT fun _=>?_)<;>try refine ev_ ?_)|with_reducible exact ti_)
  all_goals first | (exfalso;omega) | (clear hw h h2 hT hA hsm hks m1;grind)
 rw[if_neg c7]
 have e7:decide (t.kind=7)=false:=decide_eq_false c7
 by_cases c8:t.kind=8
 ·rw[if_pos c8]
  have e8:decide (t.kind=8)=true:=decide_eq_true c8
  repeat'(first|refine vs_ ?_|(refine vr_ ?_<;>try simp only[e1,e2,e14,e3,e4,e5,e6,e7,e8,go_sem,↓reduceIte])|((first|(refine cs_ ?_ ?_<;>intro hc)|refine cj_ ?_|fail|refine qa (q0k h h2) fun _=>?_)<;>try refine ev_ ?_)|with_reducible exact ti_)
  all_goals first | (exfalso;omega) | (clear hw h h2 hT hA hsm hks m1;grind)
 rw[if_neg c8]
 have e8:decide (t.kind=8)=false:=decide_eq_false c8
 by_cases c10:t.kind=10
 ·rw[if_pos c10]
  have e10:decide (t.kind=10)=true:=decide_eq_true c10
  repeat'(first|refine vs_ ?_|(refine vr_ ?_<;>try simp only[e1,e2,e14,e3,e4,e5,e6,e7,e8,e10,go_sem,↓reduceIte])|((first|(refine cs_ ?_ ?_<;>intro hc)|refine cj_ ?_|fail|refine qa (q2z hsm h h2) fun _=>?_)<;>try refine ev_ ?_)|with_reducible exact ti_)
  all_goals first | (exfalso;omega) | (clear hw h h2 hT hA hsm hks m1;grind)
 rw[if_neg c10]
 have e10:decide (t.kind=10)=false:=decide_eq_false c10
 by_cases c12:t.kind=12
 ·rw[if_pos c12]
  have e12:decide (t.kind=12)=true:=decide_eq_true c12
  repeat'(first|refine vs_ ?_|(refine vr_ ?_<;>try simp only[e1,e2,e14,e3,e4,e5,e6,e7,e8,e10,e12,go_sem,↓reduceIte])|((first|(refine cs_ ?_ ?_<;>intro hc)|refine cj_ ?_|fail|refine qa (qco t true 1 t.kids.length) fun _=>?_|refine qa hT fun _=>?_|refine qa hA fun _=>?_)<;>try refine ev_ ?_)|with_reducible exact ti_)
  all_goals first | (exfalso;omega) | (clear hw h h2 hT hA hsm hks m1;grind)
 rw[if_neg c12]
 have e12:decide (t.kind=12)=false:=decide_eq_false c12
 by_cases c13:t.kind=13
 ·rw[if_pos c13]
  have e13:decide (t.kind=13)=true:=decide_eq_true c13
  repeat'(first|refine vs_ ?_|(refine vr_ ?_<;>try simp only[e1,e2,e14,e3,e4,e5,e6,e7,e8,e10,e12,e13,go_sem,↓reduceIte])|((first|(refine cs_ ?_ ?_<;>intro hc)|refine cj_ ?_|fail|refine qa hA fun _=>?_)<;>try refine ev_ ?_)|with_reducible exact ti_)
  all_goals first | (exfalso;omega) | (clear hw h h2 hT hA hsm hks m1;grind)
 rw[if_neg c13]
 have e13:decide (t.kind=13)=false:=decide_eq_false c13
 repeat'(first|refine vs_ ?_|(refine vr_ ?_<;>try simp only[e1,e2,e14,e3,e4,e5,e6,e7,e8,e10,e12,e13,go_sem,↓reduceIte])|((first|(refine cs_ ?_ ?_<;>intro hc)|refine cj_ ?_)<;>try refine ev_ ?_)|with_reducible exact ti_)
set_option maxRecDepth 4000

def isRF:Nat->Tm->Bool
 | 0=>fun _=>false
 | n+1=>stpR (isRF n)
theorem qtw:∀n t,smT t->dpT t≤n->okRT (isRF n) t:=by
 intro n
 induction n with
 | zero=>intro t _ h;have:=q4w t;omega
 | succ n ih =>
   intro t hsm hd
   have hks:=qjf ((qh8 t).1 hsm).2.2.2
   exact qv1 hsm (fun x hx=>ih x (hks x hx) (by have:=qke hx;omega)) (fun k hk x hx=>ih x (qjf ((qh8 k).1 (hks k hk)).2.2.2 x hx) (by have:=qke hk;have:=qke hx;omega))
def lgTR(t:Tm):Bool:=decide (szTR t≤4096)&&decide (lvTR t≤400)&&isRF (dpT t) t
theorem qio{t:Tm}(hsm:smT t):qj Tryz.prog 77 [encT t] (.bool (lgTR t)):=by
 refine qd c0fb (by simp) (by simp only[go_sem]) rfl fun hw=>?_
 have h1:=qpk t
 have h2:=qt1 t
 have h3:qj Tryz.prog 119 [encT t] (.bool (isRF (dpT t) t)):=qtw _ t hsm (Nat.le_refl _)
 unfold lgTR
 generalize szTR t=a at *
 generalize lvTR t=b at *
 generalize isRF (dpT t) t=c at *
 by_cases q1:a≤4096
 ·by_cases q2:b≤400
  ·rw[decide_eq_true q1,decide_eq_true q2]
   repeat'(first|refine vs_ ?_|(refine vr_ ?_<;>try simp only[q1,q2,go_sem,↓reduceIte])|((first|(refine cs_ ?_ ?_<;>intro hc)|refine cj_ ?_|fail|refine qa h1 fun _=>?_|refine qa h2 fun _=>?_|refine qa h3 fun _=>?_)<;>try refine ev_ ?_)|with_reducible exact ti_)
   all_goals first | (exfalso;omega)
  ·rw[decide_eq_true q1,decide_eq_false q2]
   repeat'(first|refine vs_ ?_|(refine vr_ ?_<;>try simp only[q1,q2,go_sem,↓reduceIte])|((first|(refine cs_ ?_ ?_<;>intro hc)|refine cj_ ?_|fail|refine qa h1 fun _=>?_|refine qa h2 fun _=>?_)<;>try refine ev_ ?_)|with_reducible exact ti_)
   all_goals first | (exfalso;omega)
 ·rw[decide_eq_false q1]
  repeat'(first|refine vs_ ?_|(refine vr_ ?_<;>try simp only[q1,go_sem,↓reduceIte])|((first|(refine cs_ ?_ ?_<;>intro hc)|refine cj_ ?_|fail|refine qa h1 fun _=>?_)<;>try refine ev_ ?_)|with_reducible exact ti_)
  all_goals first | (exfalso;omega)
set_option maxRecDepth 4000

def F00:Int×Tm:=(0,T0)
theorem q29{l:List (Int×Tm)}{i:Nat}(h:i<l.length):(qh3 l).getD i .junk=encF (l.getD i F00):=by
 rw[qh3,List.getD_eq_getElem?_getD,List.getElem?_map,List.getElem?_eq_getElem h,List.getD_eq_getElem?_getD,List.getElem?_eq_getElem h];rfl
theorem qcnt{l:List (Int×Tm)}{i:Nat}(h:i<l.length):l.drop i=l.getD i F00::l.drop (i+1):=by
 rw[List.drop_eq_getElem_cons h,List.getD_eq_getElem?_getD,List.getElem?_eq_getElem h];rfl
theorem q16(p:Int×Tm):(encF p).cells=[.int .i64 p.1,.int .i64 p.2.kind,.int .i64 p.2.num,.str p.2.name,.sl 1 (ints p.2.vars),.sl 3 (qf p.2.types),.sl 6 (qbl p.2.kids)]:=rfl
theorem qbfy(p:Int×Tm):(encF p).isAgg=true:=rfl
attribute [go_sem] q16 qbfy
def filA:Option Tm->AV
 | some u=>.tup [encT u,.bool true]
 | none=>.tup [encT T0,.bool false]
def filG:List (Int×Tm)->Int->Option Tm
 | [],_=>none
 | p::r,k=>if p.1=k then some p.2 else filG r k
theorem qbzn(o:Option Tm):(filA o).bd 0=true:=by cases o<;>simp only[filA,AV.bd,AV.bds,qb4,Bool.and_true]
theorem qk2(R:RS)(h:Int):qj Tryz.prog 79 [qbx R,.int .i64 h] (filA (filG R.fills h)):=by
 refine qd c0fa (by simp) (by simp only[go_sem]) (qbzn _) fun hw=>?_
 have hz:AV.agg [.int .i64 0,.int .i64 0,.str [],.sl 1 [],.sl 3 [],.sl 6 []]=encT T0:=qjb
 have hl:R.fills.length≤maxLen:=by
  have h1:=hw.1
  obtain⟨_,_,_,_,_,_,h7,_⟩:=h1
  have:=h7.1
  rwa [ql1] at this
 repeat'(first|refine vs_ ?_|((first|refine vr_ ?_|(refine cs_ ?_ ?_<;>intro hc)|refine cj_ ?_)<;>try refine ev_ ?_)|with_reducible exact ti_)
 refine qk (S:=Nat) (fun i=>i≤R.fills.length∧filG (R.fills.drop i) h=filG R.fills h) (fun i=>(⟨[(1,.int .i64 h),(2,.ptr 0 0),(4,.ptr 1 0),(6,.int .i64 i)],[]⟩,[.blk (rsc R),.blk [.int .i64 0,.int .i64 0,.str [],.nils,.nils,.nils]])) (fun i=>R.fills.length-i) ?_ fun i hi=>?_
 ·refine qg 0 [0,1] ⟨Nat.zero_le _,rfl⟩ rfl (by simp) ?_ ?_ ?_<;>(try refine ev_ ?_)<;>(try with_reducible exact ti_)<;>(try simp (disch:=omega) only[qb,and_true,true_and])
 ·obtain⟨hi,ha⟩:=hi
  by_cases hlt:i<R.fills.length
  ·have hg:=q29 hlt
   have hltI:(i:Int)<(R.fills.length:Int):=by omega
   rw[qcnt hlt,filG] at ha
   generalize R.fills.getD i F00=x at *
   by_cases hx:x.1=h
   ·rw[if_pos hx] at ha
    rw[←ha]
    have htf:AV.agg [.int .i64 x.2.kind,.int .i64 x.2.num,.str x.2.name,.sl 1 (ints x.2.vars),.sl 3 (qf x.2.types),.sl 6 (qbl x.2.kids)]=encT x.2:=qcf _
    repeat'(first|refine vs_ ?_|(refine vr_ ?_<;>try simp only[hg,hltI,hx,htf,go_sem,↓reduceIte])|((first|simp (disch:=omega) only[hg]|(refine cs_ ?_ ?_<;>intro hc)|refine cj_ ?_)<;>try refine ev_ ?_)|with_reducible exact ti_)
    all_goals first | (exfalso;omega) | rfl
   ·rw[if_neg hx] at ha
    repeat'(first|refine vs_ ?_|(refine vr_ ?_<;>try simp (disch:=first|omega|(simp only[List.length_set,List.length_append,List.length_cons,List.length_nil];try omega)) only[hg,hltI,hx,qb,go_sem,↓reduceIte])|((first|simp (disch:=omega) only[hg]|(refine cs_ ?_ ?_<;>intro hc)|refine cj_ ?_)<;>try refine ev_ ?_)|with_reducible exact ti_)
    all_goals try(exfalso;omega)
    refine qg (i+1) [0,1] ⟨⟨by omega,ha⟩,by omega⟩ rfl (by simp) ?_ ?_ ?_<;>(try refine ev_ ?_)<;>(try with_reducible exact ti_)<;>(try simp (disch:=omega) only[qb,and_true,true_and])
    all_goals first | rfl | (rw[qo (by omega) (by omega),Int.natCast_add];rfl)
  ·rw[List.drop_of_length_le (by omega),filG] at ha
   rw[←ha]
   have hn:¬(i:Int)<(R.fills.length:Int):=by omega
   repeat'(first|refine vs_ ?_|(refine vr_ ?_<;>try simp only[hn,hz,go_sem,↓reduceIte])|((first|(refine cs_ ?_ ?_<;>intro hc)|refine cj_ ?_)<;>try refine ev_ ?_)|with_reducible exact ti_)
   all_goals first | (exfalso;omega) | rfl
set_option maxRecDepth 4000

def puSt(R:RS)(t:Ty)(i:Nat):AF×List Ent:=(⟨[(2,.ptr 0 0),(3,.ptr 1 0),(4,.ptr 2 0),(5,accV 3 (ints (lsV (R.known.take i)))),(6,accV 4 (qf (lsT (R.known.take i)))),(7,.int .i64 i)],[]⟩,[.blk (rsc R),.blk (yc t),.blk [.str [],.int .i64 0,.nils]]++accE 1 (ints (lsV (R.known.take i)))++accE 3 (qf (lsT (R.known.take i))))
set_option maxHeartbeats 1000000 in
theorem q31{R:RS}{t:Ty}(hl:R.known.length≤100000)(hb:szY t≤1000000):qj Tryz.prog 173 [qbx R,encY t] (encY (putT (lsV R.known) (lsT R.known) t)):=by
 refine qd c0ez (by simp) (by simp only[go_sem]) (qx 0 _) fun hw=>?_
 have hP:=q4e (lsV R.known) (lsT R.known) t hb
 repeat'(first|refine vs_ ?_|((first|refine vr_ ?_|(refine cs_ ?_ ?_<;>intro hc)|refine cj_ ?_)<;>try refine ev_ ?_)|with_reducible exact ti_)
 refine qk (S:=Nat) (fun i=>i≤R.known.length) (puSt R t) (fun i=>R.known.length-i) ?_ fun i hi=>?_
 ·refine qg 0 [0,1,2] (Nat.zero_le _) rfl (by simp) ?_ ?_ ?_<;>simp only[puSt,List.take_zero,lsV,lsT,List.map_nil,ints,qf,qq,qw,List.append_nil]<;>(try refine ev_ ?_)<;>(try with_reducible exact ti_)<;>(try simp (disch:=omega) only[qb,and_true,true_and])
 ·unfold puSt
  have hvl:(ints (lsV (R.known.take i))).length=i:=by rw[qck,lsV,List.length_map,List.length_take];omega
  have htl:(qf (lsT (R.known.take i))).length=i:=by rw[q9,lsT,List.length_map,List.length_take];omega
  have hvl2:(lsV (R.known.take i)).length=i:=by rw[←qck];exact hvl
  have htl2:(lsT (R.known.take i)).length=i:=by rw[←q9];exact htl
  by_cases hlt:i<R.known.length
  ·have hg:=qs hlt
   have hsn:=qko hlt
   have e1:ints (lsV (R.known.take i))++[.int .i64 (R.known.getD i R0).v]=ints (lsV (R.known.take (i+1))):=by rw[hsn,qs8];simp only[lsV,List.map_append,List.map_cons,List.map_nil]
   have e2:qf (lsT (R.known.take i))++[encY (R.known.getD i R0).ty]=qf (lsT (R.known.take (i+1))):=by rw[hsn,qew];simp only[lsT,List.map_append,List.map_cons,List.map_nil]
   have c1:qbi (i+1) 8=True:=eq_true (by unfold qbi;omega)
   have c2:qbi (i+1) 48=True:=eq_true (by unfold qbi;omega)
   have hif:(i:Int)<(R.known.length:Int):=by omega
   generalize R.known.getD i R0=x at *
   have hxf:AV.agg [.str x.ty.con,.int .i64 x.ty.var,.sl 3 (qf x.ty.args)]=encY x.ty:=qbd _
   by_cases h0:i=0
   ·subst h0
    have n1:ints (lsV (R.known.take 0))=[]:=rfl
    have n2:qf (lsT (R.known.take 0))=[]:=rfl
    rw[n1] at e1
    rw[n2] at e2
    rw[n1,n2]
    simp only[qq,qw,List.append_nil]
    have hif0:(0:Int)<(R.known.length:Int):=by omega
    repeat'(first|refine vs_ ?_|(refine vr_ ?_<;>try simp (disch:=first|omega|(simp only[List.length_set,List.length_append,List.length_cons,List.length_nil];try omega)) only[hg,hif0,hxf,qb,c1,c2,go_sem,↓reduceIte])|((first|simp (disch:=omega) only[hg]|(refine cs_ ?_ ?_<;>intro hc)|refine cj_ ?_)<;>try refine ev_ ?_)|with_reducible exact ti_)
    refine qg 1 [0,1,2,3,4] ⟨by omega,by omega⟩ rfl (by simp) ?_ ?_ ?_<;>simp only[puSt,←e1,←e2,List.nil_append,qc7,qej]<;>(try refine ev_ ?_)<;>(try with_reducible exact ti_)<;>(try simp (disch:=omega) only[qb,and_true,true_and])
    all_goals rfl
   ·have n1:ints (lsV (R.known.take i))≠[]:=fun h=>h0 (by rw[←hvl,h];rfl)
    have n2:qf (lsT (R.known.take i))≠[]:=fun h=>h0 (by rw[←htl,h];rfl)
    simp only[q7 n1,qbc n1,q7 n2,qbc n2,hvl,htl]
    repeat'(first|refine vs_ ?_|(refine vr_ ?_<;>try simp (disch:=first|omega|(simp only[List.length_set,List.length_append,List.length_cons,List.length_nil];try omega)) only[hg,hif,hxf,hvl,htl,hvl2,htl2,qb,c1,c2,go_sem,↓reduceIte])|((first|simp (disch:=omega) only[hg]|(refine cs_ ?_ ?_<;>intro hc)|refine cj_ ?_)<;>try refine ev_ ?_)|with_reducible exact ti_)
    refine qg (i+1) [0,1,2,5,6] ⟨by omega,by omega⟩ rfl (by simp) ?_ ?_ ?_<;>simp only[puSt,←e1,←e2,qcm,qdh,hvl,htl]<;>(try refine ev_ ?_)<;>(try with_reducible exact ti_)<;>(try simp (disch:=omega) only[qb,and_true,true_and])
    ·rw[e1,e2];exact⟨⟨qdz _ _,by rw[qhs]⟩,qbm _ _,by rw[qc6]⟩
    ·rw[qo (by omega) (by omega),Int.natCast_add];rfl
  ·have hie:i=R.known.length:=by omega
   subst hie
   rw[List.take_length] at hvl htl hvl2 htl2 ⊢
   have hnn:¬(R.known.length:Int)<(R.known.length:Int):=by omega
   by_cases h0:R.known=[]
   ·have n1:ints (lsV R.known)=[]:=by rw[h0];rfl
    have n2:qf (lsT R.known)=[]:=by rw[h0];rfl
    rw[n1,n2] at hP ⊢
    simp only[qq,qw,List.append_nil]
    repeat'(first|refine vs_ ?_|(refine vr_ ?_<;>try simp only[hnn,go_sem,↓reduceIte])|((first|(refine cs_ ?_ ?_<;>intro hc)|refine cj_ ?_|refine qa hP fun _=>?_)<;>try refine ev_ ?_)|with_reducible exact ti_)
    all_goals first | (exfalso;omega)
   ·have hne:R.known.length≠0:=fun h=>h0 (List.length_eq_zero_iff.1 h)
    have n1:ints (lsV R.known)≠[]:=fun h=>hne (by rw[←hvl,h];rfl)
    have n2:qf (lsT R.known)≠[]:=fun h=>hne (by rw[←htl,h];rfl)
    simp only[q7 n1,qbc n1,q7 n2,qbc n2,hvl,htl]
    repeat'(first|refine vs_ ?_|(refine vr_ ?_<;>try simp only[hnn,hvl,htl,hvl2,htl2,go_sem,↓reduceIte])|((first|(refine cs_ ?_ ?_<;>intro hc)|refine cj_ ?_|refine qa hP fun _=>?_)<;>try refine ev_ ?_)|with_reducible exact ti_)
    all_goals first | (exfalso;omega)
set_option maxRecDepth 4000

def typR(R:RS)(t:Ty):Ty×Bool:=if lgR t=true then(if lgR (putT (lsV R.known) (lsT R.known) t)=true then(putT (lsV R.known) (lsT R.known) t,true) else(Y0,false)) else(Y0,false)
theorem q14{R:RS}{t:Ty}(hl:R.known.length≤100000)(hb:szY t≤1000000)(hu:szY (putT (lsV R.known) (lsT R.known) t)≤1000000000):qj Tryz.prog 120 [qbx R,encY t] (.tup [encY (typR R t).1,.bool (typR R t).2]):=by
 refine qd c0ey (by simp) (by simp only[go_sem]) (by simp only[AV.bd,AV.bds,qx,Bool.and_true]) fun hw=>?_
 have h1:=qie t (by omega)
 have h2:=q31 (R:=R) hl hb
 have h3:=qie _ hu
 have hz:AV.agg [.str [],.int .i64 0,.sl 3 []]=encY Y0:=rfl
 unfold typR
 cases hlg:lgR t with
 | false =>
   rw[hlg] at h1
   repeat'(first|refine vs_ ?_|(refine vr_ ?_<;>try simp only[hz,go_sem,↓reduceIte])|((first|(refine cs_ ?_ ?_<;>intro hc)|refine cj_ ?_|fail|refine qa h1 fun _=>?_)<;>try refine ev_ ?_)|with_reducible exact ti_)
 | true =>
   rw[hlg] at h1
   generalize putT (lsV R.known) (lsT R.known) t=u at *
   cases hlu:lgR u with
   | false =>
     rw[hlu] at h3
     repeat'(first|refine vs_ ?_|(refine vr_ ?_<;>try simp only[hz,go_sem,↓reduceIte])|((first|(refine cs_ ?_ ?_<;>intro hc)|refine cj_ ?_|fail|refine qa h1 fun _=>?_|refine qa h2 fun _=>?_|refine qa h3 fun _=>?_)<;>try refine ev_ ?_)|with_reducible exact ti_)
   | true =>
     rw[hlu] at h3
     repeat'(first|refine vs_ ?_|(refine vr_ ?_<;>try simp only[hz,go_sem,↓reduceIte])|((first|(refine cs_ ?_ ?_<;>intro hc)|refine cj_ ?_|fail|refine qa h1 fun _=>?_|refine qa h2 fun _=>?_|refine qa h3 fun _=>?_)<;>try refine ev_ ?_)|with_reducible exact ti_)
set_option maxRecDepth 4000

def q1j(R:RS)(p:Pd)(pos:Int):RS:={ useR R with waits:=R.waits++[⟨p,pos,qqm R⟩] }
theorem q1o{R:RS}{p:Pd}{pos:Int}(hl:R.waits.length≤1000000):qj Tryz.prog 45 [qbx R,encP p,.int .i64 pos] (.tup [qbx (q1j R p pos),.int .i64 (qqm R)]):=by
 refine qd c0ex (by simp) (by simp only[go_sem]) (by simp only[AV.bd,AV.bds,qcx,Bool.and_true]) fun hw=>?_
 have hU:=qry R
 generalize hS:useR R=U at hU
 have hwu:U.waits=R.waits:=by rw[←hS];rfl
 have hR:q1j R p pos={ U with waits:=U.waits++[⟨p,pos,qqm R⟩] }:=by rw[q1j,hS,hwu]
 rw[hR]
 rw[←hwu] at hl
 generalize qqm R=h at *
 have hwf:AV.agg [.str p.cls,.str p.ty.con,.int .i64 p.ty.var,.sl 3 (qf p.ty.args),.int .i64 pos,.int .i64 h]=qec ⟨p,pos,h⟩:=rfl
 have c1:qbi (U.waits.length+1) 80=True:=eq_true (by unfold qbi;omega)
 have c2:qbi U.waits.length 80=True:=eq_true (by unfold qbi;omega)
 have c3:qbi 1 80=True:=eq_true (by unfold qbi;omega)
 unfold k0ex
 generalize hz:IC.seq q5r _=z1
 by_cases h0:U.waits.length=0
 ·have hnil:U.waits=[]:=List.length_eq_zero_iff.1 h0
  repeat'(first|refine vs_ ?_|(refine vr_ ?_<;>try simp only[hwf,h0,c1,c2,c3,go_sem,↓reduceIte])|((first|(refine cs_ ?_ ?_<;>intro hc)|refine cj_ ?_|fail|refine qa hU fun _=>?_|refine qc hU ?_)<;>try refine ev_ ?_)|with_reducible exact ti_)
  subst hz
  rw[hnil]
  refine qb6 3 rfl (qin [⟨p,pos,h⟩]) ?_
  repeat'(first|refine vs_ ?_|((first|refine vr_ ?_|(refine cs_ ?_ ?_<;>intro hc)|refine cj_ ?_)<;>try refine ev_ ?_)|with_reducible exact ti_)
  all_goals rfl
 ·repeat'(first|refine vs_ ?_|(refine vr_ ?_<;>try simp only[hwf,h0,c1,c2,c3,go_sem,↓reduceIte])|((first|(refine cs_ ?_ ?_<;>intro hc)|refine cj_ ?_|fail|refine qa hU fun _=>?_|refine qc hU ?_)<;>try refine ev_ ?_)|with_reducible exact ti_)
  subst hz
  have hsn:qbg U.waits++[qec ⟨p,pos,h⟩]=qbg (U.waits++[⟨p,pos,h⟩]):=qic _ _
  have hlen:(qbg (U.waits++[⟨p,pos,h⟩])).length=U.waits.length+1:=by rw[qfs,List.length_append];rfl
  have hlen2:(U.waits++[(⟨p,pos,h⟩:Wt)]).length=U.waits.length+1:=by rw[List.length_append];rfl
  rw[hsn]
  refine qb6 4 rfl (qin _) ?_
  repeat'(first|refine vs_ ?_|(refine vr_ ?_<;>try simp only[hlen,hlen2,go_sem,↓reduceIte])|((first|(refine cs_ ?_ ?_<;>intro hc)|refine cj_ ?_)<;>try refine ev_ ?_)|with_reducible exact ti_)
  all_goals rfl

mutual
def szTm:Tm->Nat
 | .mk _ _ _ _ _ ks=>1+qlg ks
def qlg:List Tm->Nat
 | []=>0
 | x::r=>szTm x+qlg r
end
theorem qia(t:Tm):szTm t=1+qlg t.kids:=by cases t;rw[szTm];rfl
theorem qmo{l:List Tm}{x:Tm}(h:x∈l):szTm x≤qlg l:=by
 induction l with
 | nil=>cases h
 | cons y r ih =>
   rw[qlg]
   rcases List.mem_cons.1 h with rfl | h
   ·omega
   ·have:=ih h;omega
theorem qjn:∀l:List Tm,l.length≤qlg l
 | []=>Nat.zero_le _
 | x::r=>by rw[qlg,List.length_cons];have:=qia x;have:=qjn r;omega
mutual
def smK:Tm->Prop
 | .mk _ _ _ _ l ks=>(∀x∈l,szY x≤20000)∧l.length≤30∧smKs ks
def smKs:List Tm->Prop
 | []=>True
 | x::r=>smK x∧smKs r
end
theorem qse(t:Tm):smK t↔(∀x∈t.types,szY x≤20000)∧t.types.length≤30∧smKs t.kids:=by cases t;rw[smK];rfl
theorem qqp{l:List Tm}(h:smKs l):∀x∈l,smK x:=by
 induction l with
 | nil=>intro x hx;cases hx
 | cons y r ih =>
   rw[smKs] at h
   intro x hx
   rcases List.mem_cons.1 hx with rfl | hx
   ·exact h.1
   ·exact ih h.2 x hx
theorem q7g{l:List Tm}(h:∀x∈l,smT x):smTs l:=by
 induction l with
 | nil=>rw[smTs];trivial
 | cons y r ih=>rw[smTs];exact⟨h y (by simp),ih fun x hx=>h x (by simp[hx])⟩
theorem qmg:∀t,szTm t≤1000000->smK t->smT t:=by
 refine Tm.ind fun t ih hz h=>?_
 obtain⟨h1,h2,h3⟩:=(qse t).1 h
 rw[qia] at hz
 have:=qjn t.kids
 refine(qh8 t).2 ⟨fun x hx=>Nat.le_trans (h1 x hx) (by decide),by omega,by omega,q7g fun x hx=>ih x hx (by have:=qmo hx;omega) (qqp h3 x hx)⟩
theorem q4u{l:List Tm}(hx:∀x∈l,∀lf dp,0≤lf->lf≤3000->0≤cntT x lf dp->cntT x lf dp+szTm x≤lf∧smK x):∀(a dp:Int),a≤3000->0≤qis l a dp->0≤a∧qis l a dp+qlg l≤a∧smKs l:=by
 induction l with
 | nil=>intro a dp ha h;rw[qis] at h ⊢;rw[qlg,smKs];exact⟨h,by omega,trivial⟩
 | cons x r ih =>
   intro a dp ha h
   rw[qis] at h ⊢
   by_cases h0:0≤a
   ·rw[if_pos h0] at h ⊢
    have hc:0≤cntT x a dp:=by
     rcases Int.lt_or_le (cntT x a dp) 0 with hn | hn
     ·rw[qul hn] at h;omega
     ·exact hn
    obtain⟨q1,q2⟩:=hx x (by simp) a dp h0 ha hc
    obtain⟨q3,q4,q5⟩:=ih (fun y hy=>hx y (by simp[hy])) _ dp (by omega) h
    rw[qlg,smKs]
    exact⟨h0,by omega,q2,q5⟩
   ·rw[if_neg h0] at h;omega
theorem qba7:∀t lf dp,0≤lf->lf≤3000->0≤cntT t lf dp->cntT t lf dp+szTm t≤lf∧smK t:=by
 refine Tm.ind fun t ih lf dp h1 h2 h=>?_
 rw[q8g] at h ⊢
 by_cases hc:dp<1∨100<(t.vars.length:Int)∨30<(t.types.length:Int)∨qef t.types=false
 ·rw[if_pos hc] at h;omega
 rw[if_neg hc] at h ⊢
 have e1:IntKind.i64.wrap (lf-1)=lf-1:=qo (by omega) (by omega)
 rw[e1] at h ⊢
 obtain⟨q1,q2,q3⟩:=q4u ih _ _ (by omega) h
 have hty:t.types.length≤30:=by omega
 have hf:qef t.types=true:=by
  cases hf:qef t.types with
  | true=>rfl
  | false=>exact absurd (.inr (.inr (.inr hf))) hc
 have hz:=qu9 (by unfold maxLen;omega) hf
 rw[qia]
 exact⟨by omega,(qse t).2 ⟨fun x hx=>by have:=qdp hx;omega,hty,q3⟩⟩
theorem q37{t:Tm}(h:qvc t=true):szTm t≤3000∧smK t:=by
 rw[qvc,decide_eq_true_eq] at h
 obtain⟨h1,h2⟩:=qba7 t 3000 450 (by omega) (by omega) h
 exact⟨by omega,h2⟩
/-! holes -/
mutual
def holT:Tm->List Int
 | .mk k n _ _ _ ks=>if k=14 then [n] else qcy ks
def qcy:List Tm->List Int
 | []=>[]
 | x::r=>holT x++qcy r
end
theorem qe1(t:Tm):holT t=if t.kind=14 then [t.num] else qcy t.kids:=by cases t;rw[holT];rfl
theorem qto(l m:List Tm):qcy (l++m)=qcy l++qcy m:=by
 induction l with
 | nil=>rw[qcy];rfl
 | cons x r ih=>rw[List.cons_append,qcy,qcy,ih,List.append_assoc]
theorem q26{l:List Tm}{x:Tm}(h:x∈l):(holT x).length≤(qcy l).length:=by
 induction l with
 | nil=>cases h
 | cons y r ih =>
   rw[qcy,List.length_append]
   rcases List.mem_cons.1 h with rfl | h
   ·omega
   ·have:=ih h;omega
theorem qjo{l:List Tm}{x:Tm}(h:x∈l){w:Int}(hw:w∈holT x):w∈qcy l:=by
 induction l with
 | nil=>cases h
 | cons y r ih =>
   rw[qcy,List.mem_append]
   rcases List.mem_cons.1 h with rfl | h
   ·exact .inl hw
   ·exact .inr (ih h)
theorem qo2(l:List Tm)(i:Nat):(qcy (l.take i)).length≤(qcy l).length:=by
 have:qcy l=qcy (l.take i)++qcy (l.drop i):=by rw[←qto,List.take_append_drop]
 rw[this,List.length_append];omega
theorem qbmt:∀t,(holT t).length≤szTm t:=by
 refine Tm.ind fun t ih=>?_
 rw[qe1,qia]
 split
 ·simp
 ·have:∀l:List Tm,(∀x∈l,(holT x).length≤szTm x)->(qcy l).length≤qlg l:=fun l=>by
   induction l with
   | nil=>intro _;rw[qcy];simp
   | cons y r ih2=>intro h;rw[qcy,qlg,List.length_append];have:=h y (by simp);have:=ih2 fun x hx=>h x (by simp[hx]);omega
  have:=this _ ih
  omega
theorem qbfp{l:List Tm}(hx:∀x∈l,∀m,lstT x m≤m∧∀w∈holT x,lstT x m≤w):∀m,qon l m≤m∧∀w∈qcy l,qon l m≤w:=by
 induction l with
 | nil=>intro m;rw[qon,qcy];exact⟨Int.le_refl _,fun w hw=>by cases hw⟩
 | cons x r ih =>
   intro m
   rw[qon,qcy]
   obtain⟨q1,q2⟩:=hx x (by simp) m
   obtain⟨q3,q4⟩:=ih (fun y hy=>hx y (by simp[hy])) (lstT x m)
   refine⟨by omega,fun w hw=>?_⟩
   rcases List.mem_append.1 hw with hw | hw
   ·have:=q2 w hw;omega
   ·exact q4 w hw
theorem qvy:∀t m,lstT t m≤m∧∀w∈holT t,lstT t m≤w:=by
 refine Tm.ind fun t ih m=>?_
 rw[q5e,qe1]
 by_cases hk:t.kind=14
 ·rw[if_pos hk,if_pos hk]
  refine⟨by split<;>omega,fun w hw=>?_⟩
  rw[List.mem_singleton] at hw
  subst hw
  split<;>omega
 ·rw[if_neg hk,if_neg hk]
  exact qbfp ih m
/-! a hole has no kids, where a term may be -/
mutual
def noKd:Tm->Prop
 | .mk k _ _ _ _ ks=>(k=14->ks=[])∧quw ks
def quw:List Tm->Prop
 | []=>True
 | x::r=>noKd x∧quw r
end
theorem qg4(t:Tm):noKd t↔(t.kind=14->t.kids=[])∧quw t.kids:=by cases t;rw[noKd];rfl
theorem qru{l:List Tm}(h:quw l):∀x∈l,noKd x:=by
 induction l with
 | nil=>intro x hx;cases hx
 | cons y r ih =>
   rw[quw] at h
   intro x hx
   rcases List.mem_cons.1 hx with rfl | hx
   ·exact h.1
   ·exact ih h.2 x hx
theorem qho{l:List Tm}(h:∀x∈l,noKd x):quw l:=by
 induction l with
 | nil=>rw[quw];trivial
 | cons y r ih=>rw[quw];exact⟨h y (by simp),ih fun x hx=>h x (by simp[hx])⟩
theorem qbvc:∀t,patT t=true->noKd t:=by
 refine Tm.ind fun t ih h=>?_
 rw[q6j,Bool.and_eq_true,Bool.and_eq_true,decide_eq_true_eq] at h
 obtain⟨⟨h1,h2⟩,h3⟩:=h
 refine(qg4 t).2 ⟨fun h=>by omega,qho fun x hx=>ih x hx ?_⟩
 rw[Bool.not_eq_true',List.any_eq_false] at h3
 have:=h3 x hx
 simpa using this
theorem qber{l:List Tm}(h:(l.length:Int)=1){x:Tm}(hx:x∈l):x=l.getD 0 T0:=by
 match l,h with
 | [a],_=>rw[List.mem_singleton] at hx;exact hx
theorem qbec{l:List Tm}(h:(l.length:Int)=2){x:Tm}(hx:x∈l):x=l.getD 0 T0∨x=l.getD 1 T0:=by
 match l,h with
 | [a,b],_=>simpa using hx
theorem q1l{l:List Tm}{x:Tm}(h:x∈l):x=l.getD 0 T0∨x∈l.drop 1:=by
 cases l with
 | nil=>cases h
 | cons y r=>simpa using h
theorem q3a{l:List Tm}{x:Tm}(h:x∈l):x=l.getD (l.length-1) T0∨x∈l.take (l.length-1):=by
 obtain⟨i,hi,rfl⟩:=List.getElem_of_mem h
 by_cases hl:i=l.length-1
 ·subst hl
  exact .inl (by rw[List.getD_eq_getElem?_getD,List.getElem?_eq_getElem hi];rfl)
 ·exact .inr (List.mem_take_iff_getElem.2 ⟨i,by omega,rfl⟩)
theorem q54:∀n t,isTF n t=true->noKd t:=by
 intro n
 induction n with
 | zero=>intro t h;cases h
 | succ n ih =>
   intro t h
   rw[isTF] at h
   split at h
   ·cases h
   rename_i hg
   have hfit:fitT t=true:=by
    cases hf:fitT t with
    | true=>rfl
    | false=>rw[hf] at hg;simp at hg
   by_cases h8:t.kind=8
   ·rw[if_pos h8,Bool.and_eq_true,Bool.and_eq_true,Bool.not_eq_true',List.any_eq_false] at h
    obtain⟨⟨_,h1⟩,h2⟩:=h
    refine(qg4 t).2 ⟨fun h=>by omega,qho fun x hx=>?_⟩
    rcases q1l hx with rfl | hx
    ·exact ih _ h1
    ·have h3:=h2 x hx
     simp only[Bool.or_eq_true,decide_eq_true_eq,Bool.not_eq_true',not_or] at h3
     obtain⟨⟨⟨k1,k2⟩,k3⟩,k4⟩:=h3
     have k1:x.kind=9:=by omega
     have k2:fitT x=true:=by simpa using k2
     have k3:patT (x.kids.getD 0 T0)=true:=by simpa using k3
     have k4:isTF n (x.kids.getD 1 T0)=true:=by simpa using k4
     have kl:=qjh k2 (s:=(shpF x.kind).getD ⟨false,false,false,0,0⟩) (by rw[k1];rfl) (by rw[k1];decide)
     have kl:(x.kids.length:Int)=2:=by rw[kl,k1];rfl
     refine(qg4 x).2 ⟨fun h=>by omega,qho fun y hy=>?_⟩
     rcases qbec kl hy with rfl | rfl
     ·exact qbvc _ k3
     ·exact ih _ k4
   rw[if_neg h8] at h
   by_cases h10:t.kind=10
   ·rw[if_pos h10,Bool.and_eq_true,Bool.and_eq_true,Bool.not_eq_true',List.any_eq_false] at h
    obtain⟨⟨_,h1⟩,h2⟩:=h
    refine(qg4 t).2 ⟨fun h=>by omega,qho fun x hx=>?_⟩
    rcases q3a hx with rfl | hx
    ·exact ih _ h1
    ·have h3:=h2 x hx
     simp only[Bool.or_eq_true,decide_eq_true_eq,Bool.not_eq_true',not_or] at h3
     obtain⟨⟨k1,k2⟩,k4⟩:=h3
     have k1:x.kind=11:=by omega
     have k2:fitT x=true:=by simpa using k2
     have k4:isTF n (x.kids.getD 0 T0)=true:=by simpa using k4
     have kl:=qjh k2 (s:=(shpF x.kind).getD ⟨false,false,false,0,0⟩) (by rw[k1];rfl) (by rw[k1];decide)
     have kl:(x.kids.length:Int)=1:=by rw[kl,k1];rfl
     refine(qg4 x).2 ⟨fun h=>by omega,qho fun y hy=>?_⟩
     have:=qber kl hy
     subst this
     exact ih _ k4
   rw[if_neg h10,Bool.not_eq_true',List.any_eq_false] at h
   refine(qg4 t).2 ⟨fun hk=>?_,qho fun x hx=>ih x (by have:=h x hx;simpa using this)⟩
   have kl:=qjh hfit (s:=(shpF t.kind).getD ⟨false,false,false,0,0⟩) (by rw[hk];rfl) (by rw[hk];decide)
   have kl:(t.kids.length:Int)=0:=by rw[kl,hk];rfl
   exact List.length_eq_zero_iff.1 (by omega)
/-! fillings -/
def qkb(F:List (Int×Tm)):Prop:=∀p∈F,(szTm p.2≤3000∧smK p.2)∧noKd p.2∧∀w∈holT p.2,p.1<w
theorem qbf8{α:Type}{l:List (Int×α)}{k:Int}{v:α}{p:Int×α}(h:p∈updG l k v):p∈l∨p=(k,v):=by
 unfold updG at h
 split at h
 ·exact List.mem_or_eq_of_mem_set h
 ·rcases List.mem_append.1 h with h | h
  ·exact .inl h
  ·exact .inr (by simpa using h)
theorem qub{f g:Tm->Int->Option (Tm×Int)}:∀(l:List Tm) (lf:Int) (q:List Tm×Int),(∀x∈l,∀lf r,f x lf=some r->g x lf=some r)->trmK f l lf=some q->trmK g l lf=some q
 | [],lf,q,_,h=>h
 | x :: r, lf, q, hfg, h => by
   rw[trmK] at h ⊢
   cases hf:f x lf with
   | none=>rw[hf] at h;cases h
   | some p =>
     rw[hf] at h
     rw[hfg x (by simp) lf p hf]
     dsimp only at h ⊢
     cases hr:trmK f r p.2 with
     | none=>rw[hr] at h;cases h
     | some z =>
       rw[hr] at h
       rw[qub r p.2 z (fun y hy=>hfg y (by simp[hy])) hr]
       exact h
section
variable {F:List (Int×Tm)} {vs:List Int} {ts:List Ty}
theorem q8k:∀(n:Nat) (t:Tm) (lf:Int) (r:Tm×Int),trmF F vs ts n t lf=some r->trmF F vs ts (n+1) t lf=some r:=by
 intro n
 induction n with
 | zero=>intro t lf r h;rw[trmF] at h;cases h
 | succ n ih =>
   intro t lf r h
   rw[trmF] at h
   rw[trmF]
   cases hh:qfd F t with
   | some p=>rw[hh] at h;exact ih _ _ _ h
   | none =>
     rw[hh] at h
     dsimp only at h ⊢
     split at h
     ·rename_i hl;rw[if_pos hl];exact h
     ·rename_i hl
      rw[if_neg hl]
      cases hk:trmK (trmF F vs ts n) t.kids (IntKind.i64.wrap (lf-1)) with
      | none=>rw[hk] at h;cases h
      | some q =>
        rw[hk] at h
        rw[qub _ _ q (fun x _ lf r hx=>ih x lf r hx) hk]
        exact h
theorem q2w{n m:Nat}(h:n≤m){t:Tm}{lf:Int}{r:Tm×Int}(hr:trmF F vs ts n t lf=some r):trmF F vs ts m t lf=some r:=by
 induction h with
 | refl=>exact hr
 | step _ ih=>exact q8k _ _ _ _ ih
theorem qm1{f:Tm->Int->Option (Tm×Int)}:∀(l:List Tm),(∀x∈l,∀lf,∃r,f x lf=some r)->∀lf,∃q,trmK f l lf=some q
 | [],_,lf=>⟨_,rfl⟩
 | x :: r, h, lf => by
   obtain⟨p,hp⟩:=h x (by simp) lf
   obtain⟨q,hq⟩:=qm1 r (fun y hy=>h y (by simp[hy])) p.2
   exact⟨(p.1::q.1,q.2),by rw[trmK,hp];dsimp only;rw[hq]⟩
theorem qgp{p:Nat->Tm->Prop}(hm:∀n m t,n≤m->p n t->p m t):∀(l:List Tm),(∀x∈l,∃n,p n x)->∃n,∀x∈l,p n x
 | [],_=>⟨0,fun x hx=>by cases hx⟩
 | x :: r, h => by
   obtain⟨n,hn⟩:=h x (by simp)
   obtain⟨m,hm'⟩:=qgp hm r fun y hy=>h y (by simp[hy])
   refine⟨max n m,fun y hy=>?_⟩
   rcases List.mem_cons.1 hy with rfl | hy
   ·exact hm _ _ _ (Nat.le_max_left _ _) hn
   ·exact hm _ _ _ (Nat.le_max_right _ _) (hm' y hy)
def cntF(F:List (Int×Tm))(h:Int):Nat:=(F.filter fun p=>decide (h≤p.1)).length
theorem qqh{F:List (Int×Tm)}{h k:Int}{u:Tm}(hm:(k,u)∈F)(hk:h≤k):cntF F (k+1)<cntF F h:=by
 unfold cntF
 induction F with
 | nil=>cases hm
 | cons p r ih =>
   have hle:∀r:List (Int×Tm),(r.filter fun p=>decide (k+1≤p.1)).length≤(r.filter fun p=>decide (h≤p.1)).length:=fun r=>by
    induction r with
    | nil=>exact Nat.le_refl _
    | cons q r ih2 =>
      rw[List.filter_cons,List.filter_cons]
      by_cases c1:k+1≤q.1
      ·rw[if_pos (by simpa using c1),if_pos (by simp;omega)];simp only[List.length_cons];omega
      ·rw[if_neg (by simpa using c1)]
       split
       ·simp only[List.length_cons];omega
       ·exact ih2
   rw[List.filter_cons,List.filter_cons]
   rcases List.mem_cons.1 hm with rfl | hm
   ·rw[if_neg (by simp;omega),if_pos (by simp;omega)]
    have:=hle r
    simp only[List.length_cons];omega
   ·have:=ih hm
    by_cases c1:k+1≤p.1
    ·rw[if_pos (by simpa using c1),if_pos (by simp;omega)];simp only[List.length_cons];omega
    ·rw[if_neg (by simpa using c1)]
     split
     ·simp only[List.length_cons];omega
     ·exact this
theorem qbig(hF:qkb F):∀(k:Nat) (h:Int),cntF F h≤k->∀t,noKd t->(∀w∈holT t,h≤w)->∃n,∀lf,∃r,trmF F vs ts n t lf=some r:=by
 intro k
 induction k with
 | zero =>
   intro h hc
   refine Tm.ind fun t ih hn hw=>?_
   obtain⟨hn1,hn2⟩:=(qg4 t).1 hn
   have hno:qfd F t=none:=by
    unfold qfd
    split
    ·rename_i hk
     cases hl:qfq F t.num with
     | none=>rfl
     | some q =>
       obtain⟨j,u⟩:=q
       have hm:=qjd hl
       have:=qqh hm (hw t.num (by rw[qe1,if_pos hk];simp))
       omega
    ·rfl
   have hkw:∀x∈t.kids,∀w∈holT x,h≤w:=fun x hx w hwx=>by
    by_cases hk:t.kind=14
    ·rw[hn1 hk] at hx;cases hx
    ·exact hw w (by rw[qe1,if_neg hk];exact qjo hx hwx)
   obtain⟨n,hn⟩:=qgp (p:=fun n x=>∀lf,∃r,trmF F vs ts n x lf=some r) (fun n m t hnm hp lf=>by obtain⟨r,hr⟩:=hp lf;exact⟨r,q2w hnm hr⟩) t.kids fun x hx=>ih x hx (qru hn2 x hx) (hkw x hx)
   refine⟨n+1,fun lf=>?_⟩
   rw[trmF,hno]
   dsimp only
   split
   ·exact⟨_,rfl⟩
   ·obtain⟨q,hq⟩:=qm1 t.kids hn (IntKind.i64.wrap (lf-1))
    exact⟨_,by rw[hq]⟩
 | succ k ihk =>
   intro h hc
   refine Tm.ind fun t ih hn hw=>?_
   obtain⟨hn1,hn2⟩:=(qg4 t).1 hn
   cases hho:qfd F t with
   | some q =>
     obtain⟨j,u⟩:=q
     have hk:t.kind=14:=by
      unfold qfd at hho
      by_cases hk:t.kind=14
      ·exact hk
      ·rw[if_neg hk] at hho;cases hho
     have hm:(t.num,u)∈F:=qjd (by unfold qfd at hho;rwa [if_pos hk] at hho)
     have hlt:=qqh hm (hw t.num (by rw[qe1,if_pos hk];simp))
     obtain⟨_,f2,f3⟩:=hF _ hm
     obtain⟨n,hn⟩:=ihk (t.num+1) (by omega) u f2 fun w hw=>by have:=f3 w hw;dsimp only at this;omega
     refine⟨n+1,fun lf=>?_⟩
     obtain⟨r,hr⟩:=hn lf
     exact⟨r,by rw[trmF,hho];exact hr⟩
   | none =>
     have hkw:∀x∈t.kids,∀w∈holT x,h≤w:=fun x hx w hwx=>by
      by_cases hk:t.kind=14
      ·rw[hn1 hk] at hx;cases hx
      ·exact hw w (by rw[qe1,if_neg hk];exact qjo hx hwx)
     obtain⟨n,hn⟩:=qgp (p:=fun n x=>∀lf,∃r,trmF F vs ts n x lf=some r) (fun n m t hnm hp lf=>by obtain⟨r,hr⟩:=hp lf;exact⟨r,q2w hnm hr⟩) t.kids fun x hx=>ih x hx (qru hn2 x hx) (hkw x hx)
     refine⟨n+1,fun lf=>?_⟩
     rw[trmF,hho]
     dsimp only
     split
     ·exact⟨_,rfl⟩
     ·obtain⟨q,hq⟩:=qm1 t.kids hn (IntKind.i64.wrap (lf-1))
      exact⟨_,by rw[hq]⟩
theorem qb53(hF:qkb F)(t:Tm)(hn:noKd t):∃n,∀lf,∃r,trmF F vs ts n t lf=some r:=by
 obtain⟨h,hh⟩:∃h:Int,∀w∈holT t,h≤w:=⟨lstT t 0,(qvy t 0).2⟩
 exact qbig hF _ h (Nat.le_refl _) t hn hh
end
end Go.Proofs.YtkenggenkmfopaaGreat
