/- Texts of this proof, joined. -/
import Derived.Test.YtkenggenkmfopaaGreatSaj
import Derived.Test.YtkenggenkmfopaaGreatSal
import Derived.Test.YtkenggenkmfopaaGreatSam
import Derived.Test.YtkenggenkmfopaaGreatSah
set_option linter.unusedVariables false
set_option linter.unusedSimpArgs false

/- terms: heads, sameness, the walk over a term -/
set_option maxRecDepth 4000
namespace Go.Proofs.YtkenggenkmfopaaGreat
open Go Go.RowKit Go.V

abbrev hdA(t:Ty):AV:=.agg [.str t.con,.int .i64 t.var,.int .i64 t.args.length]
theorem qcn{t:Ty}(hw:(encY t).wf):t.args.length≤maxLen:=((q56 t).1 hw).1
attribute [go_sem] hdA
theorem qqh(t:Ty):qj Tryz.prog 101 [encY t] (hdA t):=by
 refine qd c0bx (by simp) (by simp only[go_sem]) rfl fun hw=>?_
 have hk:=qcn hw.1
 repeat'(first|refine vs_ ?_|((first|refine vr_ ?_|(refine cs_ ?_ ?_<;>intro hc)|refine cj_ ?_)<;>try refine ev_ ?_)|with_reducible exact ti_)
 all_goals(try rfl)
theorem qbah{a b:Ty}{i:Nat}(h1:a.con=b.con)(h2:a.var=b.var)(ha:qb4 (a.args.drop i) (b.args.drop i)=qb4 a.args b.args):qkk a b=qb4 (a.args.drop i) (b.args.drop i):=by
 rw[ha,qjx];simp[h1,h2]
theorem qcy:∀a b,qj Tryz.prog 16 [encY a,encY b] (.bool (qkk a b)):=by
 refine Ty.ind fun a ih b=>?_
 refine qd c0by (by simp) (by simp only[go_sem]) rfl fun hw=>?_
 have hkl:=qcn hw.1
 have hkr:=qcn hw.2.1
 repeat'(first|refine vs_ ?_|((first|refine vr_ ?_|(refine cs_ ?_ ?_<;>intro hc)|refine cj_ ?_)<;>try refine ev_ ?_)|with_reducible exact ti_)
 ·rw[qjx];simp[*]
 ·rw[qjx];simp[*]
 ·rw[qjx,qkh (by omega)];simp
 rename_i h1 h2
 refine qk (S:=Nat) (fun i=>i≤a.args.length∧qb4 (a.args.drop i) (b.args.drop i)=qb4 a.args b.args) (fun i=>(⟨[(2,.ptr 0 0),(3,.ptr 1 0),(5,.int .i64 i)],[]⟩,[.blk (yc a),.blk (yc b)])) (fun i=>a.args.length-i) ?_ fun i hi=>?_
 ·refine qf 0 [0,1] ⟨Nat.zero_le _,rfl⟩ rfl (by simp) ?_ ?_ ?_<;>(try refine ev_ ?_)<;>(try with_reducible exact ti_)<;>(try simp (disch:=omega) only[qb,and_true,true_and])
 ·obtain⟨hi,ha⟩:=hi
  have hf:=qbah h1 h2 ha
  repeat'(first|refine vs_ ?_|(refine vr_ ?_<;>try simp (disch:=first|omega|(simp only[List.length_set,List.length_append,List.length_cons,List.length_nil];try omega)) only[ql,qb,go_sem,↓reduceIte])|((first|(refine cs_ ?_ ?_<;>intro hc)|refine cj_ ?_|refine qa (ih _ (qba (by omega)) _) fun _=>?_|refine qc (ih _ (qba (by omega)) _) ?_)<;>try refine ev_ ?_)|with_reducible exact ti_)
  ·rw[hf,qit (by omega) (by omega),hc];rfl
  ·refine qf (i+1) [0,1] ⟨⟨by omega,?_⟩,by omega⟩ rfl (by simp) ?_ ?_ ?_<;>(try refine ev_ ?_)<;>(try with_reducible exact ti_)<;>(try simp (disch:=omega) only[qb,and_true,true_and])
   rw[←ha,qit (l:=a.args) (l':=b.args) (i:=i) (by omega) (by omega),hc,Bool.true_and]
  ·rw[hf,qpv (by omega) (by omega)]
/-! heads -/
attribute [go_sem] qbdp
def fixW(s:List UInt8):Bool:=pfx [33] s&&(decide ((qos (s.drop 1)).2=0)&&decide (digI (qos (s.drop 1)).1=s.drop 1))
theorem qbv6{c:UInt8}{s:List UInt8}(h:pfx [c] s=true):1≤s.length:=by
 cases s with
 | nil=>simp[pfx] at h
 | cons d r=>simp
theorem qvn(s:List UInt8):qj Tryz.prog 152 [.str s] (.bool (fixW s)):=by
 refine qd c0bz (by simp) (by simp only[go_sem]) rfl fun hw=>?_
 cases hp:pfx [33] s with
 | false =>
   repeat'(first|refine vs_ ?_|(refine vr_ ?_<;>try simp only[hp,go_sem,↓reduceIte])|((first|(refine cs_ ?_ ?_<;>intro hc)|refine cj_ ?_|fail|refine qa (qc0 _ _) fun _=>?_|refine qc (qc0 _ _) ?_)<;>try refine ev_ ?_)|with_reducible exact ti_)
   simp[fixW,hp]
 | true =>
   have hl:=qbv6 hp
   repeat'(first|refine vs_ ?_|(refine vr_ ?_<;>try simp only[hp,go_sem,↓reduceIte])|((first|(refine cs_ ?_ ?_<;>intro hc)|refine cj_ ?_|fail|refine qa (qc0 _ _) fun _=>?_|refine qa (qsn _) fun _=>?_|refine qa (qf4 _) fun _=>?_|refine qc (qc0 _ _) ?_|refine qc (qsn _) ?_|refine qc (qf4 _) ?_)<;>try refine ev_ ?_)|with_reducible exact ti_)
   all_goals simp_all[fixW]
theorem qw6(s:List UInt8):qj Tryz.prog 211 [.str s] (.bool (fixW s)):=by
 refine qd c0ca (by simp) (by simp only[go_sem]) rfl fun hw=>?_
 cases s with
 | nil =>
   repeat'(first|refine vs_ ?_|((first|refine vr_ ?_|(refine cs_ ?_ ?_<;>intro hc)|refine cj_ ?_)<;>try refine ev_ ?_)|with_reducible exact ti_)
   all_goals first | (exact absurd rfl (by assumption)) | (simp[fixW,pfx])
 | cons c r =>
   have hp:pfx [33] (c::r)=decide ((c.toNat:Int)=33):=by
    have:(c=33)=((c.toNat:Int)=33):=by
     have h3:c=33↔c.toNat=(33:UInt8).toNat:=UInt8.toNat_inj.symm
     have h4:(33:UInt8).toNat=33:=rfl
     rw[h4] at h3
     exact propext (h3.trans (by omega))
    simp[pfx,this]
   repeat'(first|refine vs_ ?_|((first|refine vr_ ?_|refine qa (qpx _) fun _=>?_|refine qa (qf1 _) fun _=>?_|refine qc (qpx _) ?_|refine qc (qf1 _) ?_|(refine cs_ ?_ ?_<;>intro hc)|refine cj_ ?_)<;>try refine ev_ ?_)|with_reducible exact ti_)
   all_goals simp_all[fixW]
def mayW(c:List UInt8)(v n:Int):Bool :=
 if c=[] then decide (n=0) else if c=arrW then decide (v=0)&&decide (n=2) else if fixW c=true then decide (v=0)&&decide (n=0) else decide (v=0)&&conW c
theorem qbkw(c:List UInt8)(v n:Int):qj Tryz.prog 102 [.agg [.str c,.int .i64 v,.int .i64 n]] (.bool (mayW c v n)):=by
 refine qd c0cb (by simp) (by simp only[go_sem]) rfl fun hw=>?_
 repeat'(first|refine vs_ ?_|((first|refine vr_ ?_|refine qa (qvn _) fun _=>?_|refine qa (qmh _) fun _=>?_|(refine cs_ ?_ ?_<;>intro hc)|refine cj_ ?_)<;>try refine ev_ ?_)|with_reducible exact ti_)
 all_goals simp_all[mayW,arrW]
abbrev mayY(t:Ty):Bool:=mayW t.con t.var t.args.length

/-! the walk -/
section
variable {S:Type}
mutual
def qdi(step:S->Ty->Int->S×Bool):Ty->S->Int->S×Bool
 | .mk c v l,s,k=>if(step s (.mk c v l) k).2=true then qcl step l (step s (.mk c v l) k).1 (IntKind.i64.wrap (k+1)) else((step s (.mk c v l) k).1,false)
def qcl(step:S->Ty->Int->S×Bool):List Ty->S->Int->S×Bool
 | [],s,_=>(s,true)
 | x::r,s,k=>if(qdi step x s k).2=true then qcl step r (qdi step x s k).1 k else((qdi step x s k).1,false)
end
theorem qze(step:S->Ty->Int->S×Bool)(t:Ty)(s:S)(k:Int):qdi step t s k=if(step s t k).2=true then qcl step t.args (step s t k).1 (IntKind.i64.wrap (k+1)) else((step s t k).1,false):=by
 cases t;rw[qdi];rfl
theorem qom(step:S->Ty->Int->S×Bool){l:List Ty}{i:Nat}(h:i<l.length)(s:S)(k:Int):
 qcl step (l.drop i) s k=if(qdi step (l.getD i Y0) s k).2=true then qcl step (l.drop (i+1)) (qdi step (l.getD i Y0) s k).1 k else((qdi step (l.getD i Y0) s k).1,false):=by
 rw[qj1 h,qcl]
theorem q1q(step:S->Ty->Int->S×Bool){l:List Ty}{i:Nat}(h:l.length≤i)(s:S)(k:Int):qcl step (l.drop i) s k=(s,true):=by
 rw[List.drop_of_length_le h,qcl]
end
section
variable {S:Type} {step:S->Ty->Int->S×Bool} {ok:Nat->S->Prop}
theorem q8h(h2:∀n s,ok (n+1) s->ok n s):∀(d n:Nat) (s:S),ok (n+d) s->ok n s
 | 0,n,s,h=>h
 | d+1,n,s,h=>q8h h2 d n s (h2 _ _ h)
mutual
theorem q5o(h1:∀n s t k,ok (n+1) s->ok n (step s t k).1)(h2:∀n s,ok (n+1) s->ok n s):∀(t:Ty) (s:S) (k:Int) (m:Nat),ok (szY t+m) s->ok m (qdi step t s k).1
 | .mk c v l, s, k, m, h => by
   rw[szY,show 1+szYs l+m=szYs l+m+1 by omega] at h
   have h3:=h1 _ s (.mk c v l) k h
   rw[qdi]
   split
   ·exact qy8 h1 h2 l _ _ m h3
   ·exact q8h h2 (szYs l) m _ (by rw[Nat.add_comm];exact h3)
theorem qy8(h1:∀n s t k,ok (n+1) s->ok n (step s t k).1)(h2:∀n s,ok (n+1) s->ok n s):∀(l:List Ty) (s:S) (k:Int) (m:Nat),ok (szYs l+m) s->ok m (qcl step l s k).1
 | [],s,k,m,h=>by rw[qcl];rw[szYs,Nat.zero_add] at h;exact h
 | x :: r, s, k, m, h => by
   rw[szYs,Nat.add_assoc] at h
   have h3:=q5o h1 h2 x s k _ h
   rw[qcl]
   split
   ·exact qy8 h1 h2 r _ _ m h3
   ·exact q8h h2 (szYs r) m _ (by rw[Nat.add_comm];exact h3)
end
end
section
variable {S:Type}
variable {f:FuncId} {st:S->Ent} {step:S->Ty->Int->S×Bool} {ok:Nat->S->Prop} (hb:∀s,(st s).bd 0=true) (h1:∀n s t k,ok (n+1) s->ok n (step s t k).1) (h2:∀n s,ok (n+1) s->ok n s)
 (hs:∀s t k,ok 1 s->VM Tryz.prog f (st s) (st (step s t k).1) [encY t,.int .i64 k,.ptr 0 0] (.bool (step s t k).2))
include hb h1 h2 hs
theorem qo8:∀t s k,ok (szY t) s->VM Tryz.prog 99 (st s) (st (qdi step t s k).1) [encY t,.int .i64 k,.fn f [] [.ptr 0 0]] (.bool (qdi step t s k).2):=by
 refine Ty.ind fun t ih s k hok=>?_
 have hb1:∀s k,(st s).bd k=true:=fun s k=>Ent.bd_le (Nat.zero_le _) _ (hb s)
 have hbr:∀s σ,(st s).ren σ=st s:=fun s σ=>Ent.ren_bd0 (hb s)
 refine qgz (by kernel_rfl) fun hw=>?_
 have hk:=qcn hw.1
 have hok1:ok 1 s:=q8h h2 (szYs t.args) 1 s (by rw[←qdf];exact hok)
 have hok2:ok (szYs t.args) (step s t k).1:=h1 _ _ _ _ (by rw[Nat.add_comm,←qdf];exact hok)
 refine qe c0cc 1 (by simp) (by simp) ?_
 repeat'(first|refine vs_ ?_|(refine vr_ ?_<;>try simp only[hb1,hbr,go_sem,↓reduceIte])|((first|(refine cs_ ?_ ?_<;>intro hc)|refine cj_ ?_|refine qca 0 (hs _ _ _ hok1) ?_ (hb _) (hb _))<;>try refine ev_ ?_)|with_reducible exact ti_)
 ·rw[qze,if_neg (by rw[hc];simp)];exact⟨hb1 _ _,rfl,rfl⟩
 have hw0:=qze step t s k
 rw[if_pos hc] at hw0
 generalize qdi step t s k=tg at hw0 ⊢
 generalize hk1:IntKind.i64.wrap (k+1)=k1 at hw0
 refine qk (S:=Nat×S) (fun x=>x.1≤t.args.length∧qcl step (t.args.drop x.1) x.2 k1=tg∧ok (szYs (t.args.drop x.1)) x.2) (fun x=>(⟨[(1,.int .i64 k),(2,.fn f [] [.ptr 0 0]),(15,.sl 3 (qg t.args)),(16,.int .i64 t.args.length),(17,.int .i64 x.1)],[]⟩,[st x.2])) (fun x=>t.args.length-x.1) ?_ fun x hx=>?_
 ·refine qyw (0,(step s t k).1) [.blk (yc t)] ⟨Nat.zero_le _,hw0.symm,hok2⟩ (Nat.le_refl _) rfl (by simp only[List.all_cons,List.all_nil,hb1,Bool.and_true]) ?_ rfl rfl<;>(try refine ev_ ?_)<;>(try with_reducible exact ti_)<;>(try simp (disch:=omega) only[qb,and_true,true_and])
 ·obtain⟨i,s1⟩:=x
  obtain⟨hi,hx,hok3⟩:=hx
  dsimp only at hi hx hok3
  have hok4:i<t.args.length->ok (szY (t.args.getD i Y0)+szYs (t.args.drop (i+1))) s1:=fun h=>by rw[qj1 h,szYs] at hok3;exact hok3
  have hok5:i<t.args.length->ok (szY (t.args.getD i Y0)) s1:=fun h=>q8h h2 _ _ _ (hok4 h)
  repeat'(first|refine vs_ ?_|(refine vr_ ?_<;>try simp (disch:=first|omega|(simp only[List.length_set,List.length_append,List.length_cons,List.length_nil];try omega)) only[hb1,hbr,ql,qb,hk1,go_sem,↓reduceIte])|((first|(refine cs_ ?_ ?_<;>intro hc)|refine cj_ ?_|refine qca 0 (ih (t.args.getD i Y0) (qba (by omega)) s1 k1 (hok5 (by omega))) ?_ (hb _) (hb _))<;>try refine ev_ ?_)|with_reducible exact ti_)
  ·rw[qom step (by omega),if_neg (by rw[hc];simp)] at hx
   subst hx
   exact⟨hb1 _ _,rfl,rfl⟩
  ·rw[qom step (by omega),if_pos (by rw[hc])] at hx
   refine qyw (i+1,(qdi step (t.args.getD i Y0) s1 k1).1) [.blk (yc (t.args.getD i Y0))] ⟨⟨by dsimp only;omega,hx,q5o h1 h2 _ _ _ _ (hok4 (by omega))⟩,by dsimp only;omega⟩ (Nat.le_refl _) rfl (by simp only[List.all_cons,List.all_nil,hb1,Bool.and_true]) ?_ rfl rfl<;>(try refine ev_ ?_)<;>(try with_reducible exact ti_)<;>(try simp (disch:=omega) only[qb,and_true,true_and])
  ·rw[q1q step (by omega)] at hx
   subst hx
   exact⟨hb1 _ _,rfl,rfl⟩
end
set_option maxRecDepth 4000

def ints(l:List Int):List AV:=l.map (AV.int .i64)
theorem qcm(l:List Int):(ints l).length=l.length:=by simp[ints]
theorem qd0(k:Nat)(l:List Int):AV.bds k (ints l)=true:=by rw[ints,qc4];simp[AV.bd]
theorem qh1(σ:Nat->Nat)(l:List Int):AV.rens σ (ints l)=ints l:=qp (m:=0) (fun i hi=>by omega) _ (qd0 0 l)
theorem qfu{l:List Int}{i:Nat}(h:i<l.length):(ints l).getD i .junk=.int .i64 (l.getD i 0):=by
 rw[ints,List.getD_eq_getElem?_getD,List.getElem?_map,List.getElem?_eq_getElem h,List.getD_eq_getElem?_getD,List.getElem?_eq_getElem h];rfl
theorem qud(l:List Int)(v:Int):ints l++[.int .i64 v]=ints (l++[v]):=by simp[ints]
theorem qy1(a b:List Int):ints a++ints b=ints (a++b):=by simp[ints]
theorem qbbd(v:Int):[AV.int .i64 v]=ints [v]:=rfl
theorem qht:ints []=[]:=rfl
theorem qdk{l:List Int}(h:l≠[]):ints l≠[]:=by cases l with | nil=>exact absurd rfl h | cons _ _=>simp[ints]
attribute [go_sem] qcm qd0 qh1 cond_false cond_true
theorem qwo{l:List Int}{i:Nat}(h:i<l.length):l.drop i=l.getD i 0::l.drop (i+1):=by
 rw[List.drop_eq_getElem_cons h,List.getD_eq_getElem?_getD,List.getElem?_eq_getElem h];rfl
theorem qbjq{l:List Int}{i:Nat}(h:i<l.length):l.getD i 0∈l:=by
 rw[List.getD_eq_getElem?_getD,List.getElem?_eq_getElem h];exact List.getElem_mem h
theorem capI{k:Nat}(h:k≤1000000000):qbj k 8:=by unfold qbj;omega

def idxW(v:Int):List Int->Int->Int
 | [],_=>-1
 | x::r,k=>if v=x then k else idxW v r (k+1)
theorem qu2(l:List Int)(v:Int):qj Tryz.prog 122 [.sl 1 (ints l),.int .i64 v] (.int .i64 (idxW v l 0)):=by
 refine qd c0bt (by simp) (by simp only[go_sem]) rfl fun hw=>?_
 have hl:l.length≤maxLen:=by have:=hw.1.1;rwa [qcm] at this
 repeat'(first|refine vs_ ?_|((first|refine vr_ ?_|(refine cs_ ?_ ?_<;>intro hc)|refine cj_ ?_)<;>try refine ev_ ?_)|with_reducible exact ti_)
 refine qk (S:=Nat) (fun i=>i≤l.length∧idxW v (l.drop i) i=idxW v l 0) (fun i=>(⟨[(0,.sl 1 (ints l)),(1,.int .i64 v),(7,.int .i64 l.length),(8,.int .i64 i)],[]⟩,[])) (fun i=>l.length-i) ?_ fun i hi=>?_
 ·refine qf 0 [] ⟨Nat.zero_le _,rfl⟩ rfl (by simp) ?_ ?_ ?_<;>(try refine ev_ ?_)<;>(try with_reducible exact ti_)<;>(try simp (disch:=omega) only[qb,and_true,true_and])
 ·obtain⟨hi,ha⟩:=hi
  repeat'(first|refine vs_ ?_|(refine vr_ ?_<;>try simp (disch:=first|omega|(simp only[List.length_set,List.length_append,List.length_cons,List.length_nil];try omega)) only[qfu,qb,go_sem,↓reduceIte])|((first|(refine cs_ ?_ ?_<;>intro hc)|refine cj_ ?_)<;>try refine ev_ ?_)|with_reducible exact ti_)
  ·rw[←ha,qwo (by omega),idxW,if_pos (by assumption)]
  ·refine qf (i+1) [] ⟨⟨by omega,?_⟩,by omega⟩ rfl (by simp) ?_ ?_ ?_<;>(try refine ev_ ?_)<;>(try with_reducible exact ti_)<;>(try simp (disch:=omega) only[qb,and_true,true_and])
   rw[←ha,qwo (l:=l) (i:=i) (by omega),idxW,if_neg (by assumption)];rfl
  ·rw[←ha,List.drop_of_length_le (by omega)];rfl
theorem qbga(l:List Int)(v:Int):qj Tryz.prog 237 [.sl 1 (ints l),.int .i64 v] (.bool (decide (v∈l))):=by
 refine qd c0bu (by simp) (by simp only[go_sem]) rfl fun hw=>?_
 have hl:l.length≤maxLen:=by have:=hw.1.1;rwa [qcm] at this
 repeat'(first|refine vs_ ?_|((first|refine vr_ ?_|(refine cs_ ?_ ?_<;>intro hc)|refine cj_ ?_)<;>try refine ev_ ?_)|with_reducible exact ti_)
 refine qk (S:=Nat) (fun i=>i≤l.length∧decide (v∈l.drop i)=decide (v∈l)) (fun i=>(⟨[(0,.sl 1 (ints l)),(1,.int .i64 v),(5,.int .i64 i)],[]⟩,[])) (fun i=>l.length-i) ?_ fun i hi=>?_
 ·refine qf 0 [] ⟨Nat.zero_le _,rfl⟩ rfl (by simp) ?_ ?_ ?_<;>(try refine ev_ ?_)<;>(try with_reducible exact ti_)<;>(try simp (disch:=omega) only[qb,and_true,true_and])
 ·obtain⟨hi,ha⟩:=hi
  repeat'(first|refine vs_ ?_|(refine vr_ ?_<;>try simp (disch:=first|omega|(simp only[List.length_set,List.length_append,List.length_cons,List.length_nil];try omega)) only[qfu,qb,go_sem,↓reduceIte])|((first|(refine cs_ ?_ ?_<;>intro hc)|refine cj_ ?_)<;>try refine ev_ ?_)|with_reducible exact ti_)
  ·rename_i hc;rw[decide_eq_true (hc ▸ qbjq (by omega))]
  ·refine qf (i+1) [] ⟨⟨by omega,?_⟩,by omega⟩ rfl (by simp) ?_ ?_ ?_<;>(try refine ev_ ?_)<;>(try with_reducible exact ti_)<;>(try simp (disch:=omega) only[qb,and_true,true_and])
   rw[←ha,qwo (l:=l) (i:=i) (by omega)]
   have hne:¬v=l.getD i 0:=fun h=>absurd h.symm (by assumption)
   refine decide_eq_decide.2 ?_
   rw[List.mem_cons]
   exact⟨.inr,fun h=>h.resolve_left hne⟩
  ·rw[←ha,List.drop_of_length_le (by omega)];simp
/-! each once -/
theorem qb2{H:List Ent}{n:Nat}:co H (.sl n) .nils=.sl n []:=Eq.trans rfl rfl
/-! all variables -/
theorem q1j(l:List Ty)(i:Nat)(h:i<l.length):qc7 (l.take (i+1))=qc7 (l.take i)++varY (l.getD i Y0):=by
 have h1:l.take (i+1)=l.take i++[l.getD i Y0]:=by
  rw[List.take_add_one,List.getD_eq_getElem?_getD,List.getElem?_eq_getElem h];rfl
 rw[h1]
 generalize l.take i=a
 generalize l.getD i Y0=x
 induction a with
 | nil=>simp[qc7]
 | cons y a ih=>simp only[List.cons_append,qc7,ih,List.append_assoc]
def allE(t:Ty)(i:Nat):List Int:=(if t.con=[] then [t.var] else [])++qc7 (t.args.take i)
theorem qblw(t:Ty):allE t 0=if t.con=[] then [t.var] else []:=by simp[allE,qc7]
theorem q6p{t:Ty}{i:Nat}(h:i<t.args.length):allE t (i+1)=allE t i++varY (t.args.getD i Y0):=by rw[allE,allE,q1j _ _ h,List.append_assoc]
theorem qbad{t:Ty}{i:Nat}(h:t.args.length≤i):allE t i=varY t:=by rw[allE,List.take_of_length_le h,qb5n]
theorem qbc6(t:Ty)(i:Nat):(allE t i).length≤szY t:=by
 have h1:=qok t.args i
 have h2:=qmw (t.args.take i)
 rw[allE,List.length_append,qdf]
 have:(if t.con=[] then [t.var] else []).length≤1:=by split<;>simp
 omega
def q26(t:Ty)(x:Nat×Bool):AF×List Ent :=
 (⟨[(1,.ptr 0 0),(3,if x.2=true then .lit 1 (ints (allE t x.1)) else accV 1 (ints (allE t x.1))),(4,.int .i64 x.1)],[]⟩,.blk (yc t)::if x.2=true then [] else accE 1 (ints (allE t x.1)))
set_option maxHeartbeats 2000000 in
theorem q4k:∀t,szY t≤1000000->qj Tryz.prog 238 [encY t] (.sl 1 (ints (varY t))):=by
 refine Ty.ind fun t ih hb=>?_
 refine qd c0bv (by simp) (by simp only[go_sem]) (qd0 0 _) fun hw=>?_
 have hk:=qcn hw.1
 have hsz:=qdf t
 have ih':∀i,i<t.args.length->qj Tryz.prog 238 [encY (t.args.getD i Y0)] (.sl 1 (ints (varY (t.args.getD i Y0)))):=fun i hi=>ih _ (qba hi) (by have:=qdd (qba hi);omega)
 repeat'(first|refine vs_ ?_|((first|refine vr_ ?_|(refine cs_ ?_ ?_<;>intro hc)|refine cj_ ?_)<;>try refine ev_ ?_)|with_reducible exact ti_)
 all_goals refine qk (S:=Nat×Bool) (fun x=>x.1≤t.args.length) (q26 t) (fun x=>t.args.length-x.1) ?_ fun x hx=>?_
 case' refine_1.refine_1=>refine qf (0,true) [0] (Nat.zero_le _) rfl (by simp) ?_ ?_ ?_<;>simp only[q26,qblw,if_pos (by assumption:t.con=[]),if_true,qbbd]<;>(try refine ev_ ?_)<;>(try with_reducible exact ti_)<;>(try simp (disch:=omega) only[qb,and_true,true_and])
 case' refine_2.refine_1=>refine qf (0,false) [0] (Nat.zero_le _) rfl (by simp) ?_ ?_ ?_<;>simp only[q26,qblw,if_neg (by assumption:¬t.con=[]),if_false,qht,qq,qw,Bool.false_eq_true]<;>(try refine ev_ ?_)<;>(try with_reducible exact ti_)<;>(try simp (disch:=omega) only[qb,and_true,true_and])
 all_goals
  obtain⟨i,fl⟩:=x
  dsimp only at hx
  by_cases hi:i<t.args.length
  ·have hn:=q6p hi
   have hl1:=qbc6 t (i+1)
   have hl2:=congrArg List.length hn
   rw[List.length_append] at hl2
   have hcap:qbj ((allE t i).length+(varY (t.args.getD i Y0)).length) 8=True:=eq_true (capI (by omega))
   have hcap1:qbj (varY (t.args.getD i Y0)).length 8=True:=eq_true (capI (by omega))
   by_cases hy:varY (t.args.getD i Y0)=[]
   ·have hy0:(varY (t.args.getD i Y0)).length=0:=by rw[hy];rfl
    have hn':allE t (i+1)=allE t i:=by rw[hn,hy,List.append_nil]
    unfold q26
    cases fl with
    | true =>
      simp only[if_true]
      repeat'(first|refine vs_ ?_|(refine vr_ ?_<;>try simp (disch:=first|omega|(simp only[List.length_set,List.length_append,List.length_cons,List.length_nil];try omega)) only[ql,qb,go_sem,↓reduceIte])|((first|simp (disch:=omega) only[hy0]|simp (disch:=omega) only[hcap]|simp (disch:=omega) only[hcap1]|(refine cs_ ?_ ?_<;>intro hc)|refine cj_ ?_|refine qa (ih' i hi) fun _=>?_)<;>try refine ev_ ?_)|with_reducible exact ti_)
      ·refine qf (i+1,true) [0] ⟨by dsimp only;omega,by dsimp only;omega⟩ rfl (by simp) ?_ ?_ ?_<;>simp only[hn',if_true]<;>(try refine ev_ ?_)<;>(try with_reducible exact ti_)<;>(try simp (disch:=omega) only[qb,and_true,true_and])
      ·omega
    | false =>
      simp only[Bool.false_eq_true,if_false]
      by_cases h0:allE t i=[]
      ·simp only[h0,qht,qq,qw]
       repeat'(first|refine vs_ ?_|(refine vr_ ?_<;>try simp (disch:=first|omega|(simp only[List.length_set,List.length_append,List.length_cons,List.length_nil];try omega)) only[ql,qb,go_sem,↓reduceIte])|((first|simp (disch:=omega) only[hy0]|simp (disch:=omega) only[hcap]|simp (disch:=omega) only[hcap1]|(refine cs_ ?_ ?_<;>intro hc)|refine cj_ ?_|refine qa (ih' i hi) fun _=>?_)<;>try refine ev_ ?_)|with_reducible exact ti_)
       ·refine qf (i+1,false) [0] ⟨by dsimp only;omega,by dsimp only;omega⟩ rfl (by simp) ?_ ?_ ?_<;>simp only[hn',h0,qht,qq,qw,Bool.false_eq_true,if_false]<;>(try refine ev_ ?_)<;>(try with_reducible exact ti_)<;>(try simp (disch:=omega) only[qb,and_true,true_and])
       ·omega
      ·simp only[q9 (qdk h0),qbc (qdk h0)]
       repeat'(first|refine vs_ ?_|(refine vr_ ?_<;>try simp (disch:=first|omega|(simp only[List.length_set,List.length_append,List.length_cons,List.length_nil];try omega)) only[ql,qb,go_sem,↓reduceIte])|((first|simp (disch:=omega) only[hcap]|(refine cs_ ?_ ?_<;>intro hc)|refine cj_ ?_|refine qa (ih' i hi) fun _=>?_)<;>try refine ev_ ?_)|with_reducible exact ti_)
       ·refine qf (i+1,false) [0,2] ⟨by dsimp only;omega,by dsimp only;omega⟩ rfl (by simp) ?_ ?_ ?_<;>simp only[hn',q9 (qdk h0),qbc (qdk h0),Bool.false_eq_true,if_false,hy,qht,List.append_nil,List.length_nil,Nat.add_zero,qcm]<;>(try refine ev_ ?_)<;>(try with_reducible exact ti_)<;>(try simp (disch:=omega) only[qb,and_true,true_and])
       ·omega
   ·have hy0:((varY (t.args.getD i Y0)).length=0)=False:=eq_false fun h=>hy (List.length_eq_zero_iff.1 h)
    have hne:allE t (i+1)≠[]:=fun h=>hy (List.append_eq_nil_iff.1 (hn.symm.trans h)).2
    unfold q26
    cases fl with
    | true =>
      simp only[if_true]
      repeat'(first|refine vs_ ?_|(refine vr_ ?_<;>try simp (disch:=first|omega|(simp only[List.length_set,List.length_append,List.length_cons,List.length_nil];try omega)) only[ql,qb,go_sem,↓reduceIte])|((first|simp (disch:=omega) only[hy0]|simp (disch:=omega) only[hcap]|simp (disch:=omega) only[hcap1]|(refine cs_ ?_ ?_<;>intro hc)|refine cj_ ?_|refine qa (ih' i hi) fun _=>?_)<;>try refine ev_ ?_)|with_reducible exact ti_)
      ·refine qf (i+1,false) [0,1] ⟨by dsimp only;omega,by dsimp only;omega⟩ rfl (by simp) ?_ ?_ ?_<;>simp only[q9 (qdk hne),qbc (qdk hne),qy1,←hn,←hl2,Bool.false_eq_true,if_false,qcm]<;>(try refine ev_ ?_)<;>(try with_reducible exact ti_)<;>(try simp (disch:=omega) only[qb,and_true,true_and])
      ·omega
    | false =>
      simp only[Bool.false_eq_true,if_false]
      by_cases h0:allE t i=[]
      ·have hn2:allE t (i+1)=varY (t.args.getD i Y0):=by rw[hn,h0,List.nil_append]
       simp only[h0,qht,qq,qw]
       repeat'(first|refine vs_ ?_|(refine vr_ ?_<;>try simp (disch:=first|omega|(simp only[List.length_set,List.length_append,List.length_cons,List.length_nil];try omega)) only[ql,qb,go_sem,↓reduceIte])|((first|simp (disch:=omega) only[hy0]|simp (disch:=omega) only[hcap]|simp (disch:=omega) only[hcap1]|(refine cs_ ?_ ?_<;>intro hc)|refine cj_ ?_|refine qa (ih' i hi) fun _=>?_)<;>try refine ev_ ?_)|with_reducible exact ti_)
       ·refine qf (i+1,false) [0,1] ⟨by dsimp only;omega,by dsimp only;omega⟩ rfl (by simp) ?_ ?_ ?_<;>simp only[q9 (qdk hne),qbc (qdk hne),←hn2,Bool.false_eq_true,if_false,qcm]<;>(try refine ev_ ?_)<;>(try with_reducible exact ti_)<;>(try simp (disch:=omega) only[qb,and_true,true_and])
       ·omega
      ·simp only[q9 (qdk h0),qbc (qdk h0)]
       repeat'(first|refine vs_ ?_|(refine vr_ ?_<;>try simp (disch:=first|omega|(simp only[List.length_set,List.length_append,List.length_cons,List.length_nil];try omega)) only[ql,qb,go_sem,↓reduceIte])|((first|simp (disch:=omega) only[hcap]|(refine cs_ ?_ ?_<;>intro hc)|refine cj_ ?_|refine qa (ih' i hi) fun _=>?_)<;>try refine ev_ ?_)|with_reducible exact ti_)
       ·refine qf (i+1,false) [0,2] ⟨by dsimp only;omega,by dsimp only;omega⟩ rfl (by simp) ?_ ?_ ?_<;>simp only[q9 (qdk hne),qbc (qdk hne),qy1,←hn,←hl2,Bool.false_eq_true,if_false,qcm]<;>(try refine ev_ ?_)<;>(try with_reducible exact ti_)<;>(try simp (disch:=omega) only[qb,and_true,true_and])
       ·omega
  ·have hend:=qbad (t:=t) (i:=i) (by omega)
   unfold q26
   cases fl with
   | true =>
     simp only[if_true,hend]
     repeat'(first|refine vs_ ?_|((first|refine vr_ ?_|(refine cs_ ?_ ?_<;>intro hc)|refine cj_ ?_)<;>try refine ev_ ?_)|with_reducible exact ti_)
     all_goals omega
   | false =>
     simp only[Bool.false_eq_true,if_false,hend]
     by_cases h0:varY t=[]
     ·simp only[h0,qht,qq,qw]
      repeat'(first|refine vs_ ?_|((first|refine vr_ ?_|(refine cs_ ?_ ?_<;>intro hc)|refine cj_ ?_)<;>try refine ev_ ?_)|with_reducible exact ti_)
      all_goals omega
     ·simp only[q9 (qdk h0),qbc (qdk h0)]
      repeat'(first|refine vs_ ?_|((first|refine vr_ ?_|(refine cs_ ?_ ?_<;>intro hc)|refine cj_ ?_)<;>try refine ev_ ?_)|with_reducible exact ti_)
      all_goals omega
theorem q8k(t:Ty)(v:Int)(hb:szY t≤1000000):qj Tryz.prog 213 [encY t,.int .i64 v] (.bool (decide (v∈varY t))):=by
 refine qd c0bw (by simp) (by simp only[go_sem]) rfl fun hw=>?_
 have h1:=q4k t hb
 repeat'(first|refine vs_ ?_|((first|refine vr_ ?_|refine qa h1 fun _=>?_|refine qa (qbga _ _) fun _=>?_|(refine cs_ ?_ ?_<;>intro hc)|refine cj_ ?_)<;>try refine ev_ ?_)|with_reducible exact ti_)

/-! the program's: a walk that gathers -/
end Go.Proofs.YtkenggenkmfopaaGreat

/- terms as data; those that wait -/
namespace Go.Proofs.YtkenggenkmfopaaGreat
open Go Go.RowKit Go.V

inductive Tm where
 | mk (kind num:Int) (name:List UInt8) (vars:List Int) (types:List Ty) (kids:List Tm)
def Tm.kind:Tm->Int | .mk k _ _ _ _ _=>k
def Tm.num:Tm->Int | .mk _ n _ _ _ _=>n
def Tm.name:Tm->List UInt8 | .mk _ _ s _ _ _=>s
def Tm.vars:Tm->List Int | .mk _ _ _ v _ _=>v
def Tm.types:Tm->List Ty | .mk _ _ _ _ t _=>t
def Tm.kids:Tm->List Tm | .mk _ _ _ _ _ ks=>ks
mutual
def encT:Tm->AV
 | .mk k n s v t ks=>.agg [.int .i64 k,.int .i64 n,.str s,.sl 1 (ints v),.sl 3 (qg t),.sl 6 (qbn ks)]
def qbn:List Tm->List AV
 | []=>[]
 | x::r=>encT x::qbn r
end
theorem qcp(l:List Tm):qbn l=l.map encT:=by
 induction l with
 | nil=>rw[qbn];rfl
 | cons x r ih=>rw[qbn,ih];rfl
abbrev tmc(n:Tm):List AV:=[.int .i64 n.kind,.int .i64 n.num,.str n.name,.sl 1 (ints n.vars),.sl 3 (qg n.types),.sl 6 (qbn n.kids)]
theorem qcj(n:Tm):AV.agg [.int .i64 n.kind,.int .i64 n.num,.str n.name,.sl 1 (ints n.vars),.sl 3 (qg n.types),.sl 6 (qbn n.kids)]=encT n:=by
 cases n;simp only[encT,Tm.kind,Tm.num,Tm.name,Tm.vars,Tm.types,Tm.kids]
theorem qpu(n:Tm):(encT n).cells=tmc n:=by rw[←qcj];rfl
theorem Tm.ind{p:Tm->Prop}(h:∀n:Tm,(∀x∈n.kids,p x)->p n):∀n,p n:=by
 intro n
 refine Tm.rec (motive_1:=p) (motive_2:=fun l=>∀x∈l,p x) (fun k m s v t ks ih=>h (.mk k m s v t ks) ih) (fun x hx=>by cases hx) (fun x r h1 h2 y hy=>?_) n
 rcases List.mem_cons.1 hy with rfl | hy
 ·exact h1
 ·exact h2 y hy
theorem qb5(k:Nat):∀n,(encT n).bd k=true:=Tm.ind fun n ih=>by
 rw[←qcj]
 simp only[AV.bd,AV.bds,qd0,qbp,Bool.true_and,Bool.and_true]
 rw[qcp,qc4,List.all_map,List.all_eq_true]
 exact ih
theorem qhq(k:Nat)(l:List Tm):AV.bds k (qbn l)=true:=by
 rw[qcp,qc4,List.all_map,List.all_eq_true];exact fun x _=>qb5 k x
theorem qi8(σ:Nat->Nat)(n:Tm):(encT n).ren σ=encT n:=ren_same (m:=0) (fun i hi=>by omega) _ (qb5 0 n)
theorem quf(σ:Nat->Nat)(l:List Tm):AV.rens σ (qbn l)=qbn l:=qp (m:=0) (fun i hi=>by omega) _ (qhq 0 l)
theorem qb5e(H:List Ent)(n:Tm):co H (.agg [.id,.id,.id,.sl 1,.sl 3,.sl 6]) (encT n)=encT n:=by
 rw[←qcj];simp only[qj3,qew,qgj,qot,qev]
theorem q6x(n:Tm):rdCo (.agg [.id,.id,.id,.sl 1,.sl 3,.sl 6]) (encT n)=[]:=by
 rw[←qcj];simp only[qex,qcz,qdu,qgk,qc1,List.append_nil]
theorem qzl(n:Tm):(encT n).isAgg=true:=by cases n;rfl
theorem qu0(n:Tm):(encT n).leaf=false:=by cases n;rfl
theorem qdj(l:List Tm):(qbn l).length=l.length:=by rw[qcp];simp
def T0:Tm:=.mk 0 0 [] [] [] []
theorem qbd{l:List Tm}{i:Nat}(h:i<l.length):(qbn l).getD i .junk=encT (l.getD i T0):=by
 rw[qcp,List.getD_eq_getElem?_getD,List.getElem?_map,List.getElem?_eq_getElem h,List.getD_eq_getElem?_getD,List.getElem?_eq_getElem h];rfl
theorem qbk{l:List Tm}{i:Nat}(h:i<l.length):l.getD i T0∈l:=by
 rw[List.getD_eq_getElem?_getD,List.getElem?_eq_getElem h];exact List.getElem_mem h
theorem qf2{l:List Tm}{i:Nat}(h:i<l.length):l.drop i=l.getD i T0::l.drop (i+1):=by
 rw[List.drop_eq_getElem_cons h,List.getD_eq_getElem?_getD,List.getElem?_eq_getElem h];rfl
theorem qbcz(b:Bool)(n off:Nat)(x:Tm):fldv b n off (encT x)=ldc b n off (tmc x):=by rw[←qcj];rfl
theorem qj5:AV.agg [.int .i64 0,.int .i64 0,.str [],.sl 1 [],.sl 3 [],.sl 6 []]=encT T0:=by simp only[T0,encT,ints,List.map_nil,qg,qbn]
attribute [go_sem] tmc qbcz q6x qb5 qhq qi8 quf qb5e qzl qpu qcj qu0 qdj
structure Wt where
 p:Pd
 pos:Int
 hole:Int
def qel(x:Wt):AV:=.agg [.str x.p.cls,.str x.p.ty.con,.int .i64 x.p.ty.var,.sl 3 (qg x.p.ty.args),.int .i64 x.pos,.int .i64 x.hole]
def qbh(l:List Wt):List AV:=l.map qel
def Wt0:Wt:=⟨P0,0,0⟩
abbrev wtc(x:Wt):List AV:=[.str x.p.cls,.str x.p.ty.con,.int .i64 x.p.ty.var,.sl 3 (qg x.p.ty.args),.int .i64 x.pos,.int .i64 x.hole]
theorem q3d(x:Wt):AV.agg [.str x.p.cls,.str x.p.ty.con,.int .i64 x.p.ty.var,.sl 3 (qg x.p.ty.args),.int .i64 x.pos,.int .i64 x.hole]=qel x:=rfl
theorem qwg(x:Wt):(qel x).cells=wtc x:=rfl
theorem qrp(k:Nat)(x:Wt):(qel x).bd k=true:=by simp only[qel,AV.bd,AV.bds,qbp,Bool.and_true]
theorem qcv(k:Nat)(l:List Wt):AV.bds k (qbh l)=true:=by rw[qbh,qc4,List.all_map,List.all_eq_true];exact fun x _=>qrp k x
theorem q9c(σ:Nat->Nat)(x:Wt):(qel x).ren σ=qel x:=ren_same (m:=0) (fun i hi=>by omega) _ (qrp 0 x)
theorem qdg(σ:Nat->Nat)(l:List Wt):AV.rens σ (qbh l)=qbh l:=qp (m:=0) (fun i hi=>by omega) _ (qcv 0 l)
theorem qbi8(H:List Ent)(x:Wt):co H (.agg [.id,.id,.id,.sl 3,.id,.id]) (qel x)=qel x:=by
 simp only[qel,qj3,qew,qgj,qot,qev]
theorem q02(x:Wt):rdCo (.agg [.id,.id,.id,.sl 3,.id,.id]) (qel x)=[]:=by
 simp only[qel,qex,qcz,qdu,qgk,qc1,List.append_nil]
theorem q6n(x:Wt):(qel x).isAgg=true:=rfl
theorem qqo(x:Wt):(qel x).leaf=false:=rfl
theorem qft(l:List Wt):(qbh l).length=l.length:=by simp[qbh]
theorem q13{l:List Wt}{i:Nat}(h:i<l.length):(qbh l).getD i .junk=qel (l.getD i Wt0):=by
 rw[qbh,List.getD_eq_getElem?_getD,List.getElem?_map,List.getElem?_eq_getElem h,List.getD_eq_getElem?_getD,List.getElem?_eq_getElem h];rfl
theorem qin(l:List Wt)(p:Wt):qbh l++[qel p]=qbh (l++[p]):=by simp[qbh]
theorem q1s:qbh []=[]:=rfl
theorem qxn(n:Nat)(l:List Wt):(qbh l).take n=qbh (l.take n):=by simp[qbh]
theorem qma(n:Nat)(l:List Wt):(qbh l).drop n=qbh (l.drop n):=by simp[qbh]
theorem q9g(b:Bool)(n off:Nat)(p:Wt):fldv b n off (qel p)=ldc b n off (wtc p):=rfl
attribute [go_sem] wtc q9g q02 qrp qcv q9c qdg qbi8 q6n qwg q3d qqo qft qxn qma
end Go.Proofs.YtkenggenkmfopaaGreat
