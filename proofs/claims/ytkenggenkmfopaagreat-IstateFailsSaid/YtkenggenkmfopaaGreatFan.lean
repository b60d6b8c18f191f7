/- Texts of this proof, joined. -/
import Derived.Test.YtkenggenkmfopaaGreatFaj
import Derived.Test.YtkenggenkmfopaaGreatFal
import Derived.Test.YtkenggenkmfopaaGreatFam
import Derived.Test.YtkenggenkmfopaaGreatFah
set_option linter.unusedVariables false
set_option linter.unusedSimpArgs false

/- terms: heads, sameness, the walk over a term -/
set_option maxRecDepth 4000
namespace Go.Proofs.YtkenggenkmfopaaGreat
open Go Go.RowKit Go.V

abbrev hdA(t:Ty):AV:=.agg [.str t.con,.int .i64 t.var,.int .i64 t.args.length]
theorem qci{t:Ty}(hw:(encY t).wf):t.args.length≤maxLen:=((q4j t).1 hw).1
attribute [go_sem] hdA
theorem qq0(t:Ty):qj Tryz.prog 101 [encY t] (hdA t):=by
 refine qd c0bx (by simp) (by simp only[go_sem]) rfl fun hw=>?_
 have hk:=qci hw.1
 repeat'(first|refine vs_ ?_|((first|refine vr_ ?_|(refine cs_ ?_ ?_<;>intro hc)|refine cj_ ?_)<;>try refine ev_ ?_)|with_reducible exact ti_)
 all_goals(try rfl)
theorem qbb6{a b:Ty}{i:Nat}(h1:a.con=b.con)(h2:a.var=b.var)(ha:qb3 (a.args.drop i) (b.args.drop i)=qb3 a.args b.args):qn1 a b=qb3 (a.args.drop i) (b.args.drop i):=by
 rw[ha,qi9];simp[h1,h2]
theorem qdv:∀a b,qj Tryz.prog 16 [encY a,encY b] (.bool (qn1 a b)):=by
 refine Ty.ind fun a ih b=>?_
 refine qd c0by (by simp) (by simp only[go_sem]) rfl fun hw=>?_
 have hkl:=qci hw.1
 have hkr:=qci hw.2.1
 repeat'(first|refine vs_ ?_|((first|refine vr_ ?_|(refine cs_ ?_ ?_<;>intro hc)|refine cj_ ?_)<;>try refine ev_ ?_)|with_reducible exact ti_)
 ·rw[qi9];simp[*]
 ·rw[qi9];simp[*]
 ·rw[qi9,qj8 (by omega)];simp
 rename_i h1 h2
 refine qk (S:=Nat) (fun i=>i≤a.args.length∧qb3 (a.args.drop i) (b.args.drop i)=qb3 a.args b.args) (fun i=>(⟨[(2,.ptr 0 0),(3,.ptr 1 0),(5,.int .i64 i)],[]⟩,[.blk (yc a),.blk (yc b)])) (fun i=>a.args.length-i) ?_ fun i hi=>?_
 ·refine qg 0 [0,1] ⟨Nat.zero_le _,rfl⟩ rfl (by simp) ?_ ?_ ?_<;>(try refine ev_ ?_)<;>(try with_reducible exact ti_)<;>(try simp (disch:=omega) only[qb,and_true,true_and])
 ·obtain⟨hi,ha⟩:=hi
  have hf:=qbb6 h1 h2 ha
  repeat'(first|refine vs_ ?_|(refine vr_ ?_<;>try simp (disch:=first|omega|(simp only[List.length_set,List.length_append,List.length_cons,List.length_nil];try omega)) only[ql,qb,go_sem,↓reduceIte])|((first|(refine cs_ ?_ ?_<;>intro hc)|refine cj_ ?_|refine qa (ih _ (qba (by omega)) _) fun _=>?_|refine qc (ih _ (qba (by omega)) _) ?_)<;>try refine ev_ ?_)|with_reducible exact ti_)
  ·rw[hf,qid (by omega) (by omega),hc];rfl
  ·refine qg (i+1) [0,1] ⟨⟨by omega,?_⟩,by omega⟩ rfl (by simp) ?_ ?_ ?_<;>(try refine ev_ ?_)<;>(try with_reducible exact ti_)<;>(try simp (disch:=omega) only[qb,and_true,true_and])
   rw[←ha,qid (l:=a.args) (l':=b.args) (i:=i) (by omega) (by omega),hc,Bool.true_and]
  ·rw[hf,qps (by omega) (by omega)]
/-! heads -/
attribute [go_sem] q85
def fixW(s:List UInt8):Bool:=pfx [33] s&&(decide ((qoo (s.drop 1)).2=0)&&decide (digI (qoo (s.drop 1)).1=s.drop 1))
theorem qbz9{c:UInt8}{s:List UInt8}(h:pfx [c] s=true):1≤s.length:=by
 cases s with
 | nil=>simp[pfx] at h
 | cons d r=>simp
theorem qwb(s:List UInt8):qj Tryz.prog 152 [.str s] (.bool (fixW s)):=by
 refine qd c0bz (by simp) (by simp only[go_sem]) rfl fun hw=>?_
 cases hp:pfx [33] s with
 | false =>
   repeat'(first|refine vs_ ?_|(refine vr_ ?_<;>try simp only[hp,go_sem,↓reduceIte])|((first|(refine cs_ ?_ ?_<;>intro hc)|refine cj_ ?_|fail|refine qa (qc1 _ _) fun _=>?_|refine qc (qc1 _ _) ?_)<;>try refine ev_ ?_)|with_reducible exact ti_)
   simp[fixW,hp]
 | true =>
   have hl:=qbz9 hp
   repeat'(first|refine vs_ ?_|(refine vr_ ?_<;>try simp only[hp,go_sem,↓reduceIte])|((first|(refine cs_ ?_ ?_<;>intro hc)|refine cj_ ?_|fail|refine qa (qc1 _ _) fun _=>?_|refine qa (qsk _) fun _=>?_|refine qa (qfu _) fun _=>?_|refine qc (qc1 _ _) ?_|refine qc (qsk _) ?_|refine qc (qfu _) ?_)<;>try refine ev_ ?_)|with_reducible exact ti_)
   all_goals simp_all[fixW]
theorem qwz(s:List UInt8):qj Tryz.prog 211 [.str s] (.bool (fixW s)):=by
 refine qd c0ca (by simp) (by simp only[go_sem]) rfl fun hw=>?_
 cases s with
 | nil =>
   repeat'(first|refine vs_ ?_|((first|refine vr_ ?_|(refine cs_ ?_ ?_<;>intro hc)|refine cj_ ?_)<;>try refine ev_ ?_)|with_reducible exact ti_)
   all_goals first | (exact absurd rfl (by assumption)) | (simp[fixW,pfx])
 | cons c r =>
   have hp:pfx [33] (c::r)=decide ((c.toNat:Int)=33):=by
    have:(c=33)=((c.toNat:Int)=33):=by
     have h3:c=33↔c.toNat=(33:UInt8).toNat:=UInt8.toNat_inj.symm
     have h4:(33:UInt8).toNat=33:=rfl
     rw[h4] at h3
     exact propext (h3.trans (by omega))
    simp[pfx,this]
   repeat'(first|refine vs_ ?_|((first|refine vr_ ?_|refine qa (qpx _) fun _=>?_|refine qa (qfy _) fun _=>?_|refine qc (qpx _) ?_|refine qc (qfy _) ?_|(refine cs_ ?_ ?_<;>intro hc)|refine cj_ ?_)<;>try refine ev_ ?_)|with_reducible exact ti_)
   all_goals simp_all[fixW]
def mayW(c:List UInt8)(v n:Int):Bool :=
 if c=[] then decide (n=0) else if c=arrW then decide (v=0)&&decide (n=2) else if fixW c=true then decide (v=0)&&decide (n=0) else decide (v=0)&&conW c
theorem qbj7(c:List UInt8)(v n:Int):qj Tryz.prog 102 [.agg [.str c,.int .i64 v,.int .i64 n]] (.bool (mayW c v n)):=by
 refine qd c0cb (by simp) (by simp only[go_sem]) rfl fun hw=>?_
 repeat'(first|refine vs_ ?_|((first|refine vr_ ?_|refine qa (qwb _) fun _=>?_|refine qa (ql2 _) fun _=>?_|(refine cs_ ?_ ?_<;>intro hc)|refine cj_ ?_)<;>try refine ev_ ?_)|with_reducible exact ti_)
 all_goals simp_all[mayW,arrW]
abbrev mayY(t:Ty):Bool:=mayW t.con t.var t.args.length

/-! the walk -/
section
variable {S:Type}
mutual
def qdc(step:S->Ty->Int->S×Bool):Ty->S->Int->S×Bool
 | .mk c v l,s,k=>if(step s (.mk c v l) k).2=true then qch step l (step s (.mk c v l) k).1 (IntKind.i64.wrap (k+1)) else((step s (.mk c v l) k).1,false)
def qch(step:S->Ty->Int->S×Bool):List Ty->S->Int->S×Bool
 | [],s,_=>(s,true)
 | x::r,s,k=>if(qdc step x s k).2=true then qch step r (qdc step x s k).1 k else((qdc step x s k).1,false)
end
theorem qxi(step:S->Ty->Int->S×Bool)(t:Ty)(s:S)(k:Int):qdc step t s k=if(step s t k).2=true then qch step t.args (step s t k).1 (IntKind.i64.wrap (k+1)) else((step s t k).1,false):=by
 cases t;rw[qdc];rfl
theorem qme(step:S->Ty->Int->S×Bool){l:List Ty}{i:Nat}(h:i<l.length)(s:S)(k:Int):
 qch step (l.drop i) s k=if(qdc step (l.getD i Y0) s k).2=true then qch step (l.drop (i+1)) (qdc step (l.getD i Y0) s k).1 k else((qdc step (l.getD i Y0) s k).1,false):=by
 rw[qjt h,qch]
theorem q0m(step:S->Ty->Int->S×Bool){l:List Ty}{i:Nat}(h:l.length≤i)(s:S)(k:Int):qch step (l.drop i) s k=(s,true):=by
 rw[List.drop_of_length_le h,qch]
end
section
variable {S:Type} {step:S->Ty->Int->S×Bool} {ok:Nat->S->Prop}
theorem q6a(h2:∀n s,ok (n+1) s->ok n s):∀(d n:Nat) (s:S),ok (n+d) s->ok n s
 | 0,n,s,h=>h
 | d+1,n,s,h=>q6a h2 d n s (h2 _ _ h)
mutual
theorem q8n(h1:∀n s t k,ok (n+1) s->ok n (step s t k).1)(h2:∀n s,ok (n+1) s->ok n s):∀(t:Ty) (s:S) (k:Int) (m:Nat),ok (szY t+m) s->ok m (qdc step t s k).1
 | .mk c v l, s, k, m, h => by
   rw[szY,show 1+szYs l+m=szYs l+m+1 by omega] at h
   have h3:=h1 _ s (.mk c v l) k h
   rw[qdc]
   split
   ·exact qzf h1 h2 l _ _ m h3
   ·exact q6a h2 (szYs l) m _ (by rw[Nat.add_comm];exact h3)
theorem qzf(h1:∀n s t k,ok (n+1) s->ok n (step s t k).1)(h2:∀n s,ok (n+1) s->ok n s):∀(l:List Ty) (s:S) (k:Int) (m:Nat),ok (szYs l+m) s->ok m (qch step l s k).1
 | [],s,k,m,h=>by rw[qch];rw[szYs,Nat.zero_add] at h;exact h
 | x :: r, s, k, m, h => by
   rw[szYs,Nat.add_assoc] at h
   have h3:=q8n h1 h2 x s k _ h
   rw[qch]
   split
   ·exact qzf h1 h2 r _ _ m h3
   ·exact q6a h2 (szYs r) m _ (by rw[Nat.add_comm];exact h3)
end
end
section
variable {S:Type}
variable {f:FuncId} {st:S->Ent} {step:S->Ty->Int->S×Bool} {ok:Nat->S->Prop} (hb:∀s,(st s).bd 0=true) (h1:∀n s t k,ok (n+1) s->ok n (step s t k).1) (h2:∀n s,ok (n+1) s->ok n s)
 (hs:∀s t k,ok 1 s->VM Tryz.prog f (st s) (st (step s t k).1) [encY t,.int .i64 k,.ptr 0 0] (.bool (step s t k).2))
include hb h1 h2 hs
theorem qp0:∀t s k,ok (szY t) s->VM Tryz.prog 99 (st s) (st (qdc step t s k).1) [encY t,.int .i64 k,.fn f [] [.ptr 0 0]] (.bool (qdc step t s k).2):=by
 refine Ty.ind fun t ih s k hok=>?_
 have hb1:∀s k,(st s).bd k=true:=fun s k=>Ent.bd_le (Nat.zero_le _) _ (hb s)
 have hbr:∀s σ,(st s).ren σ=st s:=fun s σ=>Ent.ren_bd0 (hb s)
 refine qha (by kernel_rfl) fun hw=>?_
 have hk:=qci hw.1
 have hok1:ok 1 s:=q6a h2 (szYs t.args) 1 s (by rw[←qdr];exact hok)
 have hok2:ok (szYs t.args) (step s t k).1:=h1 _ _ _ _ (by rw[Nat.add_comm,←qdr];exact hok)
 refine qe c0cc 1 (by simp) (by simp) ?_
 repeat'(first|refine vs_ ?_|(refine vr_ ?_<;>try simp only[hb1,hbr,go_sem,↓reduceIte])|((first|(refine cs_ ?_ ?_<;>intro hc)|refine cj_ ?_|refine qca 0 (hs _ _ _ hok1) ?_ (hb _) (hb _))<;>try refine ev_ ?_)|with_reducible exact ti_)
 ·rw[qxi,if_neg (by rw[hc];simp)];exact⟨hb1 _ _,rfl,rfl⟩
 have hw0:=qxi step t s k
 rw[if_pos hc] at hw0
 generalize qdc step t s k=tg at hw0 ⊢
 generalize hk1:IntKind.i64.wrap (k+1)=k1 at hw0
 refine qk (S:=Nat×S) (fun x=>x.1≤t.args.length∧qch step (t.args.drop x.1) x.2 k1=tg∧ok (szYs (t.args.drop x.1)) x.2) (fun x=>(⟨[(1,.int .i64 k),(2,.fn f [] [.ptr 0 0]),(15,.sl 3 (qf t.args)),(16,.int .i64 t.args.length),(17,.int .i64 x.1)],[]⟩,[st x.2])) (fun x=>t.args.length-x.1) ?_ fun x hx=>?_
 ·refine qx4 (0,(step s t k).1) [.blk (yc t)] ⟨Nat.zero_le _,hw0.symm,hok2⟩ (Nat.le_refl _) rfl (by simp only[List.all_cons,List.all_nil,hb1,Bool.and_true]) ?_ rfl rfl<;>(try refine ev_ ?_)<;>(try with_reducible exact ti_)<;>(try simp (disch:=omega) only[qb,and_true,true_and])
 ·obtain⟨i,s1⟩:=x
  obtain⟨hi,hx,hok3⟩:=hx
  dsimp only at hi hx hok3
  have hok4:i<t.args.length->ok (szY (t.args.getD i Y0)+szYs (t.args.drop (i+1))) s1:=fun h=>by rw[qjt h,szYs] at hok3;exact hok3
  have hok5:i<t.args.length->ok (szY (t.args.getD i Y0)) s1:=fun h=>q6a h2 _ _ _ (hok4 h)
  repeat'(first|refine vs_ ?_|(refine vr_ ?_<;>try simp (disch:=first|omega|(simp only[List.length_set,List.length_append,List.length_cons,List.length_nil];try omega)) only[hb1,hbr,ql,qb,hk1,go_sem,↓reduceIte])|((first|(refine cs_ ?_ ?_<;>intro hc)|refine cj_ ?_|refine qca 0 (ih (t.args.getD i Y0) (qba (by omega)) s1 k1 (hok5 (by omega))) ?_ (hb _) (hb _))<;>try refine ev_ ?_)|with_reducible exact ti_)
  ·rw[qme step (by omega),if_neg (by rw[hc];simp)] at hx
   subst hx
   exact⟨hb1 _ _,rfl,rfl⟩
  ·rw[qme step (by omega),if_pos (by rw[hc])] at hx
   refine qx4 (i+1,(qdc step (t.args.getD i Y0) s1 k1).1) [.blk (yc (t.args.getD i Y0))] ⟨⟨by dsimp only;omega,hx,q8n h1 h2 _ _ _ _ (hok4 (by omega))⟩,by dsimp only;omega⟩ (Nat.le_refl _) rfl (by simp only[List.all_cons,List.all_nil,hb1,Bool.and_true]) ?_ rfl rfl<;>(try refine ev_ ?_)<;>(try with_reducible exact ti_)<;>(try simp (disch:=omega) only[qb,and_true,true_and])
  ·rw[q0m step (by omega)] at hx
   subst hx
   exact⟨hb1 _ _,rfl,rfl⟩
end
set_option maxRecDepth 4000

def ints(l:List Int):List AV:=l.map (AV.int .i64)
theorem qck(l:List Int):(ints l).length=l.length:=by simp[ints]
theorem qdz(k:Nat)(l:List Int):AV.bds k (ints l)=true:=by rw[ints,qc2];simp[AV.bd]
theorem qhs(σ:Nat->Nat)(l:List Int):AV.rens σ (ints l)=ints l:=qp (m:=0) (fun i hi=>by omega) _ (qdz 0 l)
theorem qfm{l:List Int}{i:Nat}(h:i<l.length):(ints l).getD i .junk=.int .i64 (l.getD i 0):=by
 rw[ints,List.getD_eq_getElem?_getD,List.getElem?_map,List.getElem?_eq_getElem h,List.getD_eq_getElem?_getD,List.getElem?_eq_getElem h];rfl
theorem qs8(l:List Int)(v:Int):ints l++[.int .i64 v]=ints (l++[v]):=by simp[ints]
theorem qym(a b:List Int):ints a++ints b=ints (a++b):=by simp[ints]
theorem qbio(v:Int):[AV.int .i64 v]=ints [v]:=rfl
theorem qhr:ints []=[]:=rfl
theorem qdm{l:List Int}(h:l≠[]):ints l≠[]:=by cases l with | nil=>exact absurd rfl h | cons _ _=>simp[ints]
attribute [go_sem] qck qdz qhs cond_false cond_true
theorem qwx{l:List Int}{i:Nat}(h:i<l.length):l.drop i=l.getD i 0::l.drop (i+1):=by
 rw[List.drop_eq_getElem_cons h,List.getD_eq_getElem?_getD,List.getElem?_eq_getElem h];rfl
theorem q9a{l:List Int}{i:Nat}(h:i<l.length):l.getD i 0∈l:=by
 rw[List.getD_eq_getElem?_getD,List.getElem?_eq_getElem h];exact List.getElem_mem h
theorem capI{k:Nat}(h:k≤1000000000):qbi k 8:=by unfold qbi;omega

def idxW(v:Int):List Int->Int->Int
 | [],_=>-1
 | x::r,k=>if v=x then k else idxW v r (k+1)
theorem qrr(l:List Int)(v:Int):qj Tryz.prog 122 [.sl 1 (ints l),.int .i64 v] (.int .i64 (idxW v l 0)):=by
 refine qd c0bt (by simp) (by simp only[go_sem]) rfl fun hw=>?_
 have hl:l.length≤maxLen:=by have:=hw.1.1;rwa [qck] at this
 repeat'(first|refine vs_ ?_|((first|refine vr_ ?_|(refine cs_ ?_ ?_<;>intro hc)|refine cj_ ?_)<;>try refine ev_ ?_)|with_reducible exact ti_)
 refine qk (S:=Nat) (fun i=>i≤l.length∧idxW v (l.drop i) i=idxW v l 0) (fun i=>(⟨[(0,.sl 1 (ints l)),(1,.int .i64 v),(7,.int .i64 l.length),(8,.int .i64 i)],[]⟩,[])) (fun i=>l.length-i) ?_ fun i hi=>?_
 ·refine qg 0 [] ⟨Nat.zero_le _,rfl⟩ rfl (by simp) ?_ ?_ ?_<;>(try refine ev_ ?_)<;>(try with_reducible exact ti_)<;>(try simp (disch:=omega) only[qb,and_true,true_and])
 ·obtain⟨hi,ha⟩:=hi
  repeat'(first|refine vs_ ?_|(refine vr_ ?_<;>try simp (disch:=first|omega|(simp only[List.length_set,List.length_append,List.length_cons,List.length_nil];try omega)) only[qfm,qb,go_sem,↓reduceIte])|((first|(refine cs_ ?_ ?_<;>intro hc)|refine cj_ ?_)<;>try refine ev_ ?_)|with_reducible exact ti_)
  ·rw[←ha,qwx (by omega),idxW,if_pos (by assumption)]
  ·refine qg (i+1) [] ⟨⟨by omega,?_⟩,by omega⟩ rfl (by simp) ?_ ?_ ?_<;>(try refine ev_ ?_)<;>(try with_reducible exact ti_)<;>(try simp (disch:=omega) only[qb,and_true,true_and])
   rw[←ha,qwx (l:=l) (i:=i) (by omega),idxW,if_neg (by assumption)];rfl
  ·rw[←ha,List.drop_of_length_le (by omega)];rfl
theorem qbj3(l:List Int)(v:Int):qj Tryz.prog 237 [.sl 1 (ints l),.int .i64 v] (.bool (decide (v∈l))):=by
 refine qd c0bu (by simp) (by simp only[go_sem]) rfl fun hw=>?_
 have hl:l.length≤maxLen:=by have:=hw.1.1;rwa [qck] at this
 repeat'(first|refine vs_ ?_|((first|refine vr_ ?_|(refine cs_ ?_ ?_<;>intro hc)|refine cj_ ?_)<;>try refine ev_ ?_)|with_reducible exact ti_)
 refine qk (S:=Nat) (fun i=>i≤l.length∧decide (v∈l.drop i)=decide (v∈l)) (fun i=>(⟨[(0,.sl 1 (ints l)),(1,.int .i64 v),(5,.int .i64 i)],[]⟩,[])) (fun i=>l.length-i) ?_ fun i hi=>?_
 ·refine qg 0 [] ⟨Nat.zero_le _,rfl⟩ rfl (by simp) ?_ ?_ ?_<;>(try refine ev_ ?_)<;>(try with_reducible exact ti_)<;>(try simp (disch:=omega) only[qb,and_true,true_and])
 ·obtain⟨hi,ha⟩:=hi
  repeat'(first|refine vs_ ?_|(refine vr_ ?_<;>try simp (disch:=first|omega|(simp only[List.length_set,List.length_append,List.length_cons,List.length_nil];try omega)) only[qfm,qb,go_sem,↓reduceIte])|((first|(refine cs_ ?_ ?_<;>intro hc)|refine cj_ ?_)<;>try refine ev_ ?_)|with_reducible exact ti_)
  ·rename_i hc;rw[decide_eq_true (hc ▸ q9a (by omega))]
  ·refine qg (i+1) [] ⟨⟨by omega,?_⟩,by omega⟩ rfl (by simp) ?_ ?_ ?_<;>(try refine ev_ ?_)<;>(try with_reducible exact ti_)<;>(try simp (disch:=omega) only[qb,and_true,true_and])
   rw[←ha,qwx (l:=l) (i:=i) (by omega)]
   have hne:¬v=l.getD i 0:=fun h=>absurd h.symm (by assumption)
   refine decide_eq_decide.2 ?_
   rw[List.mem_cons]
   exact⟨.inr,fun h=>h.resolve_left hne⟩
  ·rw[←ha,List.drop_of_length_le (by omega)];simp
/-! each once -/
theorem qbt{H:List Ent}{n:Nat}:co H (.sl n) .nils=.sl n []:=Eq.trans rfl rfl
/-! all variables -/
theorem qz7(l:List Ty)(i:Nat)(h:i<l.length):qc5 (l.take (i+1))=qc5 (l.take i)++varY (l.getD i Y0):=by
 have h1:l.take (i+1)=l.take i++[l.getD i Y0]:=by
  rw[List.take_add_one,List.getD_eq_getElem?_getD,List.getElem?_eq_getElem h];rfl
 rw[h1]
 generalize l.take i=a
 generalize l.getD i Y0=x
 induction a with
 | nil=>simp[qc5]
 | cons y a ih=>simp only[List.cons_append,qc5,ih,List.append_assoc]
def allE(t:Ty)(i:Nat):List Int:=(if t.con=[] then [t.var] else [])++qc5 (t.args.take i)
theorem qbkt(t:Ty):allE t 0=if t.con=[] then [t.var] else []:=by simp[allE,qc5]
theorem q55{t:Ty}{i:Nat}(h:i<t.args.length):allE t (i+1)=allE t i++varY (t.args.getD i Y0):=by rw[allE,allE,qz7 _ _ h,List.append_assoc]
theorem qbgg{t:Ty}{i:Nat}(h:t.args.length≤i):allE t i=varY t:=by rw[allE,List.take_of_length_le h,qbqz]
theorem qbj4(t:Ty)(i:Nat):(allE t i).length≤szY t:=by
 have h1:=qmw t.args i
 have h2:=qn8 (t.args.take i)
 rw[allE,List.length_append,qdr]
 have:(if t.con=[] then [t.var] else []).length≤1:=by split<;>simp
 omega
def q2q(t:Ty)(x:Nat×Bool):AF×List Ent :=
 (⟨[(1,.ptr 0 0),(3,if x.2=true then .lit 1 (ints (allE t x.1)) else accV 1 (ints (allE t x.1))),(4,.int .i64 x.1)],[]⟩,.blk (yc t)::if x.2=true then [] else accE 1 (ints (allE t x.1)))
set_option maxHeartbeats 2000000 in
theorem q77:∀t,szY t≤1000000->qj Tryz.prog 238 [encY t] (.sl 1 (ints (varY t))):=by
 refine Ty.ind fun t ih hb=>?_
 refine qd c0bv (by simp) (by simp only[go_sem]) (qdz 0 _) fun hw=>?_
 have hk:=qci hw.1
 have hsz:=qdr t
 have ih':∀i,i<t.args.length->qj Tryz.prog 238 [encY (t.args.getD i Y0)] (.sl 1 (ints (varY (t.args.getD i Y0)))):=fun i hi=>ih _ (qba hi) (by have:=qdp (qba hi);omega)
 repeat'(first|refine vs_ ?_|((first|refine vr_ ?_|(refine cs_ ?_ ?_<;>intro hc)|refine cj_ ?_)<;>try refine ev_ ?_)|with_reducible exact ti_)
 all_goals refine qk (S:=Nat×Bool) (fun x=>x.1≤t.args.length) (q2q t) (fun x=>t.args.length-x.1) ?_ fun x hx=>?_
 case' refine_1.refine_1=>refine qg (0,true) [0] (Nat.zero_le _) rfl (by simp) ?_ ?_ ?_<;>simp only[q2q,qbkt,if_pos (by assumption:t.con=[]),if_true,qbio]<;>(try refine ev_ ?_)<;>(try with_reducible exact ti_)<;>(try simp (disch:=omega) only[qb,and_true,true_and])
 case' refine_2.refine_1=>refine qg (0,false) [0] (Nat.zero_le _) rfl (by simp) ?_ ?_ ?_<;>simp only[q2q,qbkt,if_neg (by assumption:¬t.con=[]),if_false,qhr,qq,qw,Bool.false_eq_true]<;>(try refine ev_ ?_)<;>(try with_reducible exact ti_)<;>(try simp (disch:=omega) only[qb,and_true,true_and])
 all_goals
  obtain⟨i,fl⟩:=x
  dsimp only at hx
  by_cases hi:i<t.args.length
  ·have hn:=q55 hi
   have hl1:=qbj4 t (i+1)
   have hl2:=congrArg List.length hn
   rw[List.length_append] at hl2
   have hcap:qbi ((allE t i).length+(varY (t.args.getD i Y0)).length) 8=True:=eq_true (capI (by omega))
   have hcap1:qbi (varY (t.args.getD i Y0)).length 8=True:=eq_true (capI (by omega))
   by_cases hy:varY (t.args.getD i Y0)=[]
   ·have hy0:(varY (t.args.getD i Y0)).length=0:=by rw[hy];rfl
    have hn':allE t (i+1)=allE t i:=by rw[hn,hy,List.append_nil]
    unfold q2q
    cases fl with
    | true =>
      simp only[if_true]
      repeat'(first|refine vs_ ?_|(refine vr_ ?_<;>try simp (disch:=first|omega|(simp only[List.length_set,List.length_append,List.length_cons,List.length_nil];try omega)) only[ql,qb,go_sem,↓reduceIte])|((first|simp (disch:=omega) only[hy0]|simp (disch:=omega) only[hcap]|simp (disch:=omega) only[hcap1]|(refine cs_ ?_ ?_<;>intro hc)|refine cj_ ?_|refine qa (ih' i hi) fun _=>?_)<;>try refine ev_ ?_)|with_reducible exact ti_)
      ·refine qg (i+1,true) [0] ⟨by dsimp only;omega,by dsimp only;omega⟩ rfl (by simp) ?_ ?_ ?_<;>simp only[hn',if_true]<;>(try refine ev_ ?_)<;>(try with_reducible exact ti_)<;>(try simp (disch:=omega) only[qb,and_true,true_and])
      ·omega
    | false =>
      simp only[Bool.false_eq_true,if_false]
      by_cases h0:allE t i=[]
      ·simp only[h0,qhr,qq,qw]
       repeat'(first|refine vs_ ?_|(refine vr_ ?_<;>try simp (disch:=first|omega|(simp only[List.length_set,List.length_append,List.length_cons,List.length_nil];try omega)) only[ql,qb,go_sem,↓reduceIte])|((first|simp (disch:=omega) only[hy0]|simp (disch:=omega) only[hcap]|simp (disch:=omega) only[hcap1]|(refine cs_ ?_ ?_<;>intro hc)|refine cj_ ?_|refine qa (ih' i hi) fun _=>?_)<;>try refine ev_ ?_)|with_reducible exact ti_)
       ·refine qg (i+1,false) [0] ⟨by dsimp only;omega,by dsimp only;omega⟩ rfl (by simp) ?_ ?_ ?_<;>simp only[hn',h0,qhr,qq,qw,Bool.false_eq_true,if_false]<;>(try refine ev_ ?_)<;>(try with_reducible exact ti_)<;>(try simp (disch:=omega) only[qb,and_true,true_and])
       ·omega
      ·simp only[q7 (qdm h0),qbc (qdm h0)]
       repeat'(first|refine vs_ ?_|(refine vr_ ?_<;>try simp (disch:=first|omega|(simp only[List.length_set,List.length_append,List.length_cons,List.length_nil];try omega)) only[ql,qb,go_sem,↓reduceIte])|((first|simp (disch:=omega) only[hcap]|(refine cs_ ?_ ?_<;>intro hc)|refine cj_ ?_|refine qa (ih' i hi) fun _=>?_)<;>try refine ev_ ?_)|with_reducible exact ti_)
       ·refine qg (i+1,false) [0,2] ⟨by dsimp only;omega,by dsimp only;omega⟩ rfl (by simp) ?_ ?_ ?_<;>simp only[hn',q7 (qdm h0),qbc (qdm h0),Bool.false_eq_true,if_false,hy,qhr,List.append_nil,List.length_nil,Nat.add_zero,qck]<;>(try refine ev_ ?_)<;>(try with_reducible exact ti_)<;>(try simp (disch:=omega) only[qb,and_true,true_and])
       ·omega
   ·have hy0:((varY (t.args.getD i Y0)).length=0)=False:=eq_false fun h=>hy (List.length_eq_zero_iff.1 h)
    have hne:allE t (i+1)≠[]:=fun h=>hy (List.append_eq_nil_iff.1 (hn.symm.trans h)).2
    unfold q2q
    cases fl with
    | true =>
      simp only[if_true]
      repeat'(first|refine vs_ ?_|(refine vr_ ?_<;>try simp (disch:=first|omega|(simp only[List.length_set,List.length_append,List.length_cons,List.length_nil];try omega)) only[ql,qb,go_sem,↓reduceIte])|((first|simp (disch:=omega) only[hy0]|simp (disch:=omega) only[hcap]|simp (disch:=omega) only[hcap1]|(refine cs_ ?_ ?_<;>intro hc)|refine cj_ ?_|refine qa (ih' i hi) fun _=>?_)<;>try refine ev_ ?_)|with_reducible exact ti_)
      ·refine qg (i+1,false) [0,1] ⟨by dsimp only;omega,by dsimp only;omega⟩ rfl (by simp) ?_ ?_ ?_<;>simp only[q7 (qdm hne),qbc (qdm hne),qym,←hn,←hl2,Bool.false_eq_true,if_false,qck]<;>(try refine ev_ ?_)<;>(try with_reducible exact ti_)<;>(try simp (disch:=omega) only[qb,and_true,true_and])
      ·omega
    | false =>
      simp only[Bool.false_eq_true,if_false]
      by_cases h0:allE t i=[]
      ·have hn2:allE t (i+1)=varY (t.args.getD i Y0):=by rw[hn,h0,List.nil_append]
       simp only[h0,qhr,qq,qw]
       repeat'(first|refine vs_ ?_|(refine vr_ ?_<;>try simp (disch:=first|omega|(simp only[List.length_set,List.length_append,List.length_cons,List.length_nil];try omega)) only[ql,qb,go_sem,↓reduceIte])|((first|simp (disch:=omega) only[hy0]|simp (disch:=omega) only[hcap]|simp (disch:=omega) only[hcap1]|(refine cs_ ?_ ?_<;>intro hc)|refine cj_ ?_|refine qa (ih' i hi) fun _=>?_)<;>try refine ev_ ?_)|with_reducible exact ti_)
       ·refine qg (i+1,false) [0,1] ⟨by dsimp only;omega,by dsimp only;omega⟩ rfl (by simp) ?_ ?_ ?_<;>simp only[q7 (qdm hne),qbc (qdm hne),←hn2,Bool.false_eq_true,if_false,qck]<;>(try refine ev_ ?_)<;>(try with_reducible exact ti_)<;>(try simp (disch:=omega) only[qb,and_true,true_and])
       ·omega
      ·simp only[q7 (qdm h0),qbc (qdm h0)]
       repeat'(first|refine vs_ ?_|(refine vr_ ?_<;>try simp (disch:=first|omega|(simp only[List.length_set,List.length_append,List.length_cons,List.length_nil];try omega)) only[ql,qb,go_sem,↓reduceIte])|((first|simp (disch:=omega) only[hcap]|(refine cs_ ?_ ?_<;>intro hc)|refine cj_ ?_|refine qa (ih' i hi) fun _=>?_)<;>try refine ev_ ?_)|with_reducible exact ti_)
       ·refine qg (i+1,false) [0,2] ⟨by dsimp only;omega,by dsimp only;omega⟩ rfl (by simp) ?_ ?_ ?_<;>simp only[q7 (qdm hne),qbc (qdm hne),qym,←hn,←hl2,Bool.false_eq_true,if_false,qck]<;>(try refine ev_ ?_)<;>(try with_reducible exact ti_)<;>(try simp (disch:=omega) only[qb,and_true,true_and])
       ·omega
  ·have hend:=qbgg (t:=t) (i:=i) (by omega)
   unfold q2q
   cases fl with
   | true =>
     simp only[if_true,hend]
     repeat'(first|refine vs_ ?_|((first|refine vr_ ?_|(refine cs_ ?_ ?_<;>intro hc)|refine cj_ ?_)<;>try refine ev_ ?_)|with_reducible exact ti_)
     all_goals omega
   | false =>
     simp only[Bool.false_eq_true,if_false,hend]
     by_cases h0:varY t=[]
     ·simp only[h0,qhr,qq,qw]
      repeat'(first|refine vs_ ?_|((first|refine vr_ ?_|(refine cs_ ?_ ?_<;>intro hc)|refine cj_ ?_)<;>try refine ev_ ?_)|with_reducible exact ti_)
      all_goals omega
     ·simp only[q7 (qdm h0),qbc (qdm h0)]
      repeat'(first|refine vs_ ?_|((first|refine vr_ ?_|(refine cs_ ?_ ?_<;>intro hc)|refine cj_ ?_)<;>try refine ev_ ?_)|with_reducible exact ti_)
      all_goals omega
theorem q23(t:Ty)(v:Int)(hb:szY t≤1000000):qj Tryz.prog 213 [encY t,.int .i64 v] (.bool (decide (v∈varY t))):=by
 refine qd c0bw (by simp) (by simp only[go_sem]) rfl fun hw=>?_
 have h1:=q77 t hb
 repeat'(first|refine vs_ ?_|((first|refine vr_ ?_|refine qa h1 fun _=>?_|refine qa (qbj3 _ _) fun _=>?_|(refine cs_ ?_ ?_<;>intro hc)|refine cj_ ?_)<;>try refine ev_ ?_)|with_reducible exact ti_)

/-! the program's: a walk that gathers -/
end Go.Proofs.YtkenggenkmfopaaGreat

/- terms as data; those that wait -/
namespace Go.Proofs.YtkenggenkmfopaaGreat
open Go Go.RowKit Go.V

inductive Tm where
 | mk (kind num:Int) (name:List UInt8) (vars:List Int) (types:List Ty) (kids:List Tm)
def Tm.kind:Tm->Int | .mk k _ _ _ _ _=>k
def Tm.num:Tm->Int | .mk _ n _ _ _ _=>n
def Tm.name:Tm->List UInt8 | .mk _ _ s _ _ _=>s
def Tm.vars:Tm->List Int | .mk _ _ _ v _ _=>v
def Tm.types:Tm->List Ty | .mk _ _ _ _ t _=>t
def Tm.kids:Tm->List Tm | .mk _ _ _ _ _ ks=>ks
mutual
def encT:Tm->AV
 | .mk k n s v t ks=>.agg [.int .i64 k,.int .i64 n,.str s,.sl 1 (ints v),.sl 3 (qf t),.sl 6 (qbl ks)]
def qbl:List Tm->List AV
 | []=>[]
 | x::r=>encT x::qbl r
end
theorem qcp(l:List Tm):qbl l=l.map encT:=by
 induction l with
 | nil=>rw[qbl];rfl
 | cons x r ih=>rw[qbl,ih];rfl
abbrev tmc(n:Tm):List AV:=[.int .i64 n.kind,.int .i64 n.num,.str n.name,.sl 1 (ints n.vars),.sl 3 (qf n.types),.sl 6 (qbl n.kids)]
theorem qcf(n:Tm):AV.agg [.int .i64 n.kind,.int .i64 n.num,.str n.name,.sl 1 (ints n.vars),.sl 3 (qf n.types),.sl 6 (qbl n.kids)]=encT n:=by
 cases n;simp only[encT,Tm.kind,Tm.num,Tm.name,Tm.vars,Tm.types,Tm.kids]
theorem qo5(n:Tm):(encT n).cells=tmc n:=by rw[←qcf];rfl
theorem Tm.ind{p:Tm->Prop}(h:∀n:Tm,(∀x∈n.kids,p x)->p n):∀n,p n:=by
 intro n
 refine Tm.rec (motive_1:=p) (motive_2:=fun l=>∀x∈l,p x) (fun k m s v t ks ih=>h (.mk k m s v t ks) ih) (fun x hx=>by cases hx) (fun x r h1 h2 y hy=>?_) n
 rcases List.mem_cons.1 hy with rfl | hy
 ·exact h1
 ·exact h2 y hy
theorem qb4(k:Nat):∀n,(encT n).bd k=true:=Tm.ind fun n ih=>by
 rw[←qcf]
 simp only[AV.bd,AV.bds,qdz,qbm,Bool.true_and,Bool.and_true]
 rw[qcp,qc2,List.all_map,List.all_eq_true]
 exact ih
theorem qhn(k:Nat)(l:List Tm):AV.bds k (qbl l)=true:=by
 rw[qcp,qc2,List.all_map,List.all_eq_true];exact fun x _=>qb4 k x
theorem qjj(σ:Nat->Nat)(n:Tm):(encT n).ren σ=encT n:=ren_same (m:=0) (fun i hi=>by omega) _ (qb4 0 n)
theorem qsh(σ:Nat->Nat)(l:List Tm):AV.rens σ (qbl l)=qbl l:=qp (m:=0) (fun i hi=>by omega) _ (qhn 0 l)
theorem qbyo(H:List Ent)(n:Tm):co H (.agg [.id,.id,.id,.sl 1,.sl 3,.sl 6]) (encT n)=encT n:=by
 rw[←qcf];simp only[qir,qeq,qf5,qom,qeh]
theorem q5c(n:Tm):rdCo (.agg [.id,.id,.id,.sl 1,.sl 3,.sl 6]) (encT n)=[]:=by
 rw[←qcf];simp only[qeg,qc0,qdi,qf1,qcz,List.append_nil]
theorem qzs(n:Tm):(encT n).isAgg=true:=by cases n;rfl
theorem qup(n:Tm):(encT n).leaf=false:=by cases n;rfl
theorem qdl(l:List Tm):(qbl l).length=l.length:=by rw[qcp];simp
def T0:Tm:=.mk 0 0 [] [] [] []
theorem qbe{l:List Tm}{i:Nat}(h:i<l.length):(qbl l).getD i .junk=encT (l.getD i T0):=by
 rw[qcp,List.getD_eq_getElem?_getD,List.getElem?_map,List.getElem?_eq_getElem h,List.getD_eq_getElem?_getD,List.getElem?_eq_getElem h];rfl
theorem qbh{l:List Tm}{i:Nat}(h:i<l.length):l.getD i T0∈l:=by
 rw[List.getD_eq_getElem?_getD,List.getElem?_eq_getElem h];exact List.getElem_mem h
theorem qfn{l:List Tm}{i:Nat}(h:i<l.length):l.drop i=l.getD i T0::l.drop (i+1):=by
 rw[List.drop_eq_getElem_cons h,List.getD_eq_getElem?_getD,List.getElem?_eq_getElem h];rfl
theorem qbd5(b:Bool)(n off:Nat)(x:Tm):fldv b n off (encT x)=ldc b n off (tmc x):=by rw[←qcf];rfl
theorem qjb:AV.agg [.int .i64 0,.int .i64 0,.str [],.sl 1 [],.sl 3 [],.sl 6 []]=encT T0:=by simp only[T0,encT,ints,List.map_nil,qf,qbl]
attribute [go_sem] tmc qbd5 q5c qb4 qhn qjj qsh qbyo qzs qo5 qcf qup qdl
structure Wt where
 p:Pd
 pos:Int
 hole:Int
def qec(x:Wt):AV:=.agg [.str x.p.cls,.str x.p.ty.con,.int .i64 x.p.ty.var,.sl 3 (qf x.p.ty.args),.int .i64 x.pos,.int .i64 x.hole]
def qbg(l:List Wt):List AV:=l.map qec
def Wt0:Wt:=⟨P0,0,0⟩
abbrev wtc(x:Wt):List AV:=[.str x.p.cls,.str x.p.ty.con,.int .i64 x.p.ty.var,.sl 3 (qf x.p.ty.args),.int .i64 x.pos,.int .i64 x.hole]
theorem q13(x:Wt):AV.agg [.str x.p.cls,.str x.p.ty.con,.int .i64 x.p.ty.var,.sl 3 (qf x.p.ty.args),.int .i64 x.pos,.int .i64 x.hole]=qec x:=rfl
theorem qvf(x:Wt):(qec x).cells=wtc x:=rfl
theorem qrj(k:Nat)(x:Wt):(qec x).bd k=true:=by simp only[qec,AV.bd,AV.bds,qbm,Bool.and_true]
theorem qcv(k:Nat)(l:List Wt):AV.bds k (qbg l)=true:=by rw[qbg,qc2,List.all_map,List.all_eq_true];exact fun x _=>qrj k x
theorem q4k(σ:Nat->Nat)(x:Wt):(qec x).ren σ=qec x:=ren_same (m:=0) (fun i hi=>by omega) _ (qrj 0 x)
theorem qda(σ:Nat->Nat)(l:List Wt):AV.rens σ (qbg l)=qbg l:=qp (m:=0) (fun i hi=>by omega) _ (qcv 0 l)
theorem qbe9(H:List Ent)(x:Wt):co H (.agg [.id,.id,.id,.sl 3,.id,.id]) (qec x)=qec x:=by
 simp only[qec,qir,qeq,qf5,qom,qeh]
theorem q1r(x:Wt):rdCo (.agg [.id,.id,.id,.sl 3,.id,.id]) (qec x)=[]:=by
 simp only[qec,qeg,qc0,qdi,qf1,qcz,List.append_nil]
theorem q25(x:Wt):(qec x).isAgg=true:=rfl
theorem qrp(x:Wt):(qec x).leaf=false:=rfl
theorem qfs(l:List Wt):(qbg l).length=l.length:=by simp[qbg]
theorem q1v{l:List Wt}{i:Nat}(h:i<l.length):(qbg l).getD i .junk=qec (l.getD i Wt0):=by
 rw[qbg,List.getD_eq_getElem?_getD,List.getElem?_map,List.getElem?_eq_getElem h,List.getD_eq_getElem?_getD,List.getElem?_eq_getElem h];rfl
theorem qic(l:List Wt)(p:Wt):qbg l++[qec p]=qbg (l++[p]):=by simp[qbg]
theorem q2l:qbg []=[]:=rfl
theorem qu5(n:Nat)(l:List Wt):(qbg l).take n=qbg (l.take n):=by simp[qbg]
theorem qm9(n:Nat)(l:List Wt):(qbg l).drop n=qbg (l.drop n):=by simp[qbg]
theorem q3g(b:Bool)(n off:Nat)(p:Wt):fldv b n off (qec p)=ldc b n off (wtc p):=rfl
attribute [go_sem] wtc q3g q1r qrj qcv q4k qda qbe9 q25 qvf q13 qrp qfs qu5 qm9
end Go.Proofs.YtkenggenkmfopaaGreat
