/- Texts of this proof, joined. -/
import Derived.Test.YtkenggenkmfopaaGreatIan
import Derived.Test.YtkenggenkmfopaaGreatIap
import Derived.Test.YtkenggenkmfopaaGreatIaq
set_option linter.unusedVariables false
set_option linter.unusedSimpArgs false

/- terms: heads, sameness, the walk over a term -/
set_option maxRecDepth 4000
namespace Go.Proofs.YtkenggenkmfopaaGreat
open Go Go.RowKit Go.V

abbrev hdA(t:Ty):AV:=.agg [.str t.con,.int .i64 t.var,.int .i64 t.args.length]
theorem qe6{t:Ty}(hw:(encY t).wf):t.args.length≤maxLen:=((qbby t).1 hw).1
attribute [go_sem] hdA
theorem qq8(t:Ty):qp Tryz.prog 101 [encY t] (hdA t):=by
 refine qe c0bb (by simp) (by simp only[go_sem]) rfl fun hw=>?_
 have hk:=qe6 hw.1
 repeat'(first|refine vs_ ?_|((first|refine vr_ ?_|(refine cs_ ?_ ?_<;>intro hc)|refine cj_ ?_)<;>try refine ev_ ?_)|with_reducible exact ti_)
 all_goals(try rfl)
theorem qbd6{a b:Ty}{i:Nat}(h1:a.con=b.con)(h2:a.var=b.var)(ha:qed (a.args.drop i) (b.args.drop i)=qed a.args b.args):q3f a b=qed (a.args.drop i) (b.args.drop i):=by
 rw[ha,ql7];simp[h1,h2]
theorem qp7:∀a b,qp Tryz.prog 16 [encY a,encY b] (.bool (q3f a b)):=by
 refine Ty.ind fun a ih b=>?_
 refine qe c0bc (by simp) (by simp only[go_sem]) rfl fun hw=>?_
 have hkl:=qe6 hw.1
 have hkr:=qe6 hw.2.1
 repeat'(first|refine vs_ ?_|((first|refine vr_ ?_|(refine cs_ ?_ ?_<;>intro hc)|refine cj_ ?_|simp (disch:=omega) only[qa,qc])<;>try refine ev_ ?_)|with_reducible exact ti_)
 ·rw[ql7];simp[*]
 ·rw[ql7];simp[*]
 ·rw[ql7,qp0 (by omega)];simp
 rename_i h1 h2
 refine qo (S:=Nat) (fun i=>i≤a.args.length∧qed (a.args.drop i) (b.args.drop i)=qed a.args b.args) (fun i=>(⟨[(2,.ptr 0 0),(3,.ptr 1 0),(5,.int .i64 i)],[]⟩,[.blk (yc a),.blk (yc b)])) (fun i=>a.args.length-i) ?_ fun i hi=>?_
 ·refine qj 0 [0,1] ⟨Nat.zero_le _,rfl⟩ rfl (by simp) ?_ ?_ ?_<;>(try refine ev_ ?_)<;>(try with_reducible exact ti_)<;>(try simp (disch:=omega) only[qc,and_true,true_and])
 ·obtain⟨hi,ha⟩:=hi
  have hf:=qbd6 h1 h2 ha
  repeat'(first|refine vs_ ?_|(refine vr_ ?_<;>try simp (disch:=first|omega|(simp only[List.length_set,List.length_append,List.length_cons,List.length_nil];try omega)) only[qbb,qc,go_sem,↓reduceIte])|((first|(refine cs_ ?_ ?_<;>intro hc)|refine cj_ ?_|simp (disch:=omega) only[qa,qc]|refine qb (ih _ (qcn (by omega)) _) fun _=>?_|refine qf (ih _ (qcn (by omega)) _) ?_)<;>try refine ev_ ?_)|with_reducible exact ti_)
  ·rw[hf,qm9 (by omega) (by omega),hc];rfl
  ·refine qj (i+1) [0,1] ⟨⟨by omega,?_⟩,by omega⟩ rfl (by simp) ?_ ?_ ?_<;>(try refine ev_ ?_)<;>(try with_reducible exact ti_)<;>(try simp (disch:=omega) only[qc,and_true,true_and])
   rw[←ha,qm9 (l:=a.args) (l':=b.args) (i:=i) (by omega) (by omega),hc,Bool.true_and]
  ·rw[hf,q10 (by omega) (by omega)]
/-! heads -/
attribute [go_sem] q41
def fixW(s:List UInt8):Bool:=pfx [33] s&&(decide ((qlu (s.drop 1)).2=0)&&decide (digI (qlu (s.drop 1)).1=s.drop 1))
theorem qcal{c:UInt8}{s:List UInt8}(h:pfx [c] s=true):1≤s.length:=by
 cases s with
 | nil=>simp[pfx] at h
 | cons d r=>simp
theorem qyb(s:List UInt8):qp Tryz.prog 152 [.str s] (.bool (fixW s)):=by
 refine qe c0bd (by simp) (by simp only[go_sem]) rfl fun hw=>?_
 cases hp:pfx [33] s with
 | false =>
   repeat'(first|refine vs_ ?_|(refine vr_ ?_<;>try simp only[hp,go_sem,↓reduceIte])|((first|(refine cs_ ?_ ?_<;>intro hc)|refine cj_ ?_|fail|refine qb (qbn _ _) fun _=>?_|refine qf (qbn _ _) ?_)<;>try refine ev_ ?_)|with_reducible exact ti_)
   simp[fixW,hp]
 | true =>
   have hl:=qcal hp
   repeat'(first|refine vs_ ?_|(refine vr_ ?_<;>try simp only[hp,go_sem,↓reduceIte])|((first|(refine cs_ ?_ ?_<;>intro hc)|refine cj_ ?_|fail|refine qb (qbn _ _) fun _=>?_|refine qb (qm2 _) fun _=>?_|refine qb (qj2 _) fun _=>?_|refine qf (qbn _ _) ?_|refine qf (qm2 _) ?_|refine qf (qj2 _) ?_)<;>try refine ev_ ?_)|with_reducible exact ti_)
   all_goals simp_all[fixW]
def mayW(c:List UInt8)(v n:Int):Bool :=
 if c=[] then decide (n=0) else if c=arrW then decide (v=0)&&decide (n=2) else if fixW c=true then decide (v=0)&&decide (n=0) else decide (v=0)&&conW c
theorem qbjo(c:List UInt8)(v n:Int):qp Tryz.prog 102 [.agg [.str c,.int .i64 v,.int .i64 n]] (.bool (mayW c v n)):=by
 refine qe c0be (by simp) (by simp only[go_sem]) rfl fun hw=>?_
 repeat'(first|refine vs_ ?_|((first|refine vr_ ?_|refine qb (qyb _) fun _=>?_|refine qb (qhs _) fun _=>?_|(refine cs_ ?_ ?_<;>intro hc)|refine cj_ ?_)<;>try refine ev_ ?_)|with_reducible exact ti_)
 all_goals simp_all[mayW,arrW]
abbrev mayY(t:Ty):Bool:=mayW t.con t.var t.args.length

/-! the walk -/
section
variable {S:Type}
mutual
def qdb(step:S->Ty->Int->S×Bool):Ty->S->Int->S×Bool
 | .mk c v l,s,k=>if(step s (.mk c v l) k).2=true then qcd step l (step s (.mk c v l) k).1 (IntKind.i64.wrap (k+1)) else((step s (.mk c v l) k).1,false)
def qcd(step:S->Ty->Int->S×Bool):List Ty->S->Int->S×Bool
 | [],s,_=>(s,true)
 | x::r,s,k=>if(qdb step x s k).2=true then qcd step r (qdb step x s k).1 k else((qdb step x s k).1,false)
end
theorem q0m(step:S->Ty->Int->S×Bool)(t:Ty)(s:S)(k:Int):qdb step t s k=if(step s t k).2=true then qcd step t.args (step s t k).1 (IntKind.i64.wrap (k+1)) else((step s t k).1,false):=by
 cases t;rw[qdb];rfl
theorem qm4(step:S->Ty->Int->S×Bool){l:List Ty}{i:Nat}(h:i<l.length)(s:S)(k:Int):
 qcd step (l.drop i) s k=if(qdb step (l.getD i Y0) s k).2=true then qcd step (l.drop (i+1)) (qdb step (l.getD i Y0) s k).1 k else((qdb step (l.getD i Y0) s k).1,false):=by
 rw[qsn h,qcd]
theorem q2t(step:S->Ty->Int->S×Bool){l:List Ty}{i:Nat}(h:l.length≤i)(s:S)(k:Int):qcd step (l.drop i) s k=(s,true):=by
 rw[List.drop_of_length_le h,qcd]
end
section
variable {S:Type} {step:S->Ty->Int->S×Bool} {ok:Nat->S->Prop}
theorem q7n(h2:∀n s,ok (n+1) s->ok n s):∀(d n:Nat) (s:S),ok (n+d) s->ok n s
 | 0,n,s,h=>h
 | d+1,n,s,h=>q7n h2 d n s (h2 _ _ h)
mutual
theorem q9r(h1:∀n s t k,ok (n+1) s->ok n (step s t k).1)(h2:∀n s,ok (n+1) s->ok n s):∀(t:Ty) (s:S) (k:Int) (m:Nat),ok (szY t+m) s->ok m (qdb step t s k).1
 | .mk c v l, s, k, m, h => by
   rw[szY,show 1+szYs l+m=szYs l+m+1 by omega] at h
   have h3:=h1 _ s (.mk c v l) k h
   rw[qdb]
   split
   ·exact qy0 h1 h2 l _ _ m h3
   ·exact q7n h2 (szYs l) m _ (by rw[Nat.add_comm];exact h3)
theorem qy0(h1:∀n s t k,ok (n+1) s->ok n (step s t k).1)(h2:∀n s,ok (n+1) s->ok n s):∀(l:List Ty) (s:S) (k:Int) (m:Nat),ok (szYs l+m) s->ok m (qcd step l s k).1
 | [],s,k,m,h=>by rw[qcd];rw[szYs,Nat.zero_add] at h;exact h
 | x :: r, s, k, m, h => by
   rw[szYs,Nat.add_assoc] at h
   have h3:=q9r h1 h2 x s k _ h
   rw[qcd]
   split
   ·exact qy0 h1 h2 r _ _ m h3
   ·exact q7n h2 (szYs r) m _ (by rw[Nat.add_comm];exact h3)
end
end
section
variable {S:Type}
variable {f:FuncId} {st:S->Ent} {step:S->Ty->Int->S×Bool} {ok:Nat->S->Prop} (hb:∀s,(st s).bd 0=true) (h1:∀n s t k,ok (n+1) s->ok n (step s t k).1) (h2:∀n s,ok (n+1) s->ok n s)
 (hs:∀s t k,ok 1 s->VM Tryz.prog f (st s) (st (step s t k).1) [encY t,.int .i64 k,.ptr 0 0] (.bool (step s t k).2))
include hb h1 h2 hs
theorem qkn:∀t s k,ok (szY t) s->VM Tryz.prog 99 (st s) (st (qdb step t s k).1) [encY t,.int .i64 k,.fn f [] [.ptr 0 0]] (.bool (qdb step t s k).2):=by
 refine Ty.ind fun t ih s k hok=>?_
 have hb1:∀s k,(st s).bd k=true:=fun s k=>Ent.bd_le (Nat.zero_le _) _ (hb s)
 have hbr:∀s σ,(st s).ren σ=st s:=fun s σ=>Ent.ren_bd0 (hb s)
 refine qfq (by kernel_rfl) fun hw=>?_
 have hk:=qe6 hw.1
 have hok1:ok 1 s:=q7n h2 (szYs t.args) 1 s (by rw[←qll];exact hok)
 have hok2:ok (szYs t.args) (step s t k).1:=h1 _ _ _ _ (by rw[Nat.add_comm,←qll];exact hok)
 refine qd c0bf 1 (by simp) (by simp) ?_
 repeat'(first|refine vs_ ?_|(refine vr_ ?_<;>try simp only[hb1,hbr,go_sem,↓reduceIte])|((first|(refine cs_ ?_ ?_<;>intro hc)|refine cj_ ?_|simp (disch:=omega) only[qa,qc]|refine qcw 0 (hs _ _ _ hok1) ?_ (hb _) (hb _))<;>try refine ev_ ?_)|with_reducible exact ti_)
 ·rw[q0m,if_neg (by rw[hc];simp)];exact⟨hb1 _ _,rfl,rfl⟩
 have hw0:=q0m step t s k
 rw[if_pos hc] at hw0
 generalize qdb step t s k=tg at hw0 ⊢
 generalize hk1:IntKind.i64.wrap (k+1)=k1 at hw0
 refine qo (S:=Nat×S) (fun x=>x.1≤t.args.length∧qcd step (t.args.drop x.1) x.2 k1=tg∧ok (szYs (t.args.drop x.1)) x.2) (fun x=>(⟨[(1,.int .i64 k),(2,.fn f [] [.ptr 0 0]),(15,.sl 3 (qh t.args)),(16,.int .i64 t.args.length),(17,.int .i64 x.1)],[]⟩,[st x.2])) (fun x=>t.args.length-x.1) ?_ fun x hx=>?_
 ·refine qlj (0,(step s t k).1) [.blk (yc t)] ⟨Nat.zero_le _,hw0.symm,hok2⟩ (Nat.le_refl _) rfl (by simp only[List.all_cons,List.all_nil,hb1,Bool.and_true]) ?_ rfl rfl<;>(try refine ev_ ?_)<;>(try with_reducible exact ti_)<;>(try simp (disch:=omega) only[qc,and_true,true_and])
 ·obtain⟨i,s1⟩:=x
  obtain⟨hi,hx,hok3⟩:=hx
  dsimp only at hi hx hok3
  have hok4:i<t.args.length->ok (szY (t.args.getD i Y0)+szYs (t.args.drop (i+1))) s1:=fun h=>by rw[qsn h,szYs] at hok3;exact hok3
  have hok5:i<t.args.length->ok (szY (t.args.getD i Y0)) s1:=fun h=>q7n h2 _ _ _ (hok4 h)
  repeat'(first|refine vs_ ?_|(refine vr_ ?_<;>try simp (disch:=first|omega|(simp only[List.length_set,List.length_append,List.length_cons,List.length_nil];try omega)) only[hb1,hbr,qbb,qc,hk1,go_sem,↓reduceIte])|((first|(refine cs_ ?_ ?_<;>intro hc)|refine cj_ ?_|simp (disch:=omega) only[qa,qc]|refine qcw 0 (ih (t.args.getD i Y0) (qcn (by omega)) s1 k1 (hok5 (by omega))) ?_ (hb _) (hb _))<;>try refine ev_ ?_)|with_reducible exact ti_)
  ·rw[qm4 step (by omega),if_neg (by rw[hc];simp)] at hx
   subst hx
   exact⟨hb1 _ _,rfl,rfl⟩
  ·rw[qm4 step (by omega),if_pos (by rw[hc])] at hx
   refine qlj (i+1,(qdb step (t.args.getD i Y0) s1 k1).1) [.blk (yc (t.args.getD i Y0))] ⟨⟨by dsimp only;omega,hx,q9r h1 h2 _ _ _ _ (hok4 (by omega))⟩,by dsimp only;omega⟩ (Nat.le_refl _) rfl (by simp only[List.all_cons,List.all_nil,hb1,Bool.and_true]) ?_ rfl rfl<;>(try refine ev_ ?_)<;>(try with_reducible exact ti_)<;>(try simp (disch:=omega) only[qc,and_true,true_and])
  ·rw[q2t step (by omega)] at hx
   subst hx
   exact⟨hb1 _ _,rfl,rfl⟩
end
set_option maxRecDepth 4000

def ints(l:List Int):List AV:=l.map (AV.int .i64)
theorem qdq(l:List Int):(ints l).length=l.length:=by simp[ints]
theorem qe2(k:Nat)(l:List Int):AV.bds k (ints l)=true:=by rw[ints,qb6];simp[AV.bd]
theorem qj0(σ:Nat->Nat)(l:List Int):AV.rens σ (ints l)=ints l:=qs (m:=0) (fun i hi=>by omega) _ (qe2 0 l)
theorem qor{l:List Int}{i:Nat}(h:i<l.length):(ints l).getD i .junk=.int .i64 (l.getD i 0):=by
 rw[ints,List.getD_eq_getElem?_getD,List.getElem?_map,List.getElem?_eq_getElem h,List.getD_eq_getElem?_getD,List.getElem?_eq_getElem h];rfl
theorem qjn(l:List Int)(v:Int):ints l++[.int .i64 v]=ints (l++[v]):=by simp[ints]
theorem qbif(v:Int):[AV.int .i64 v]=ints [v]:=rfl
theorem qdf:ints []=[]:=rfl
theorem qbu{l:List Int}(h:l≠[]):ints l≠[]:=by cases l with | nil=>exact absurd rfl h | cons _ _=>simp[ints]
attribute [go_sem] qdq qe2 qj0 cond_false cond_true
theorem qbpt{l:List Int}{i:Nat}(h:i<l.length):l.drop i=l.getD i 0::l.drop (i+1):=by
 rw[List.drop_eq_getElem_cons h,List.getD_eq_getElem?_getD,List.getElem?_eq_getElem h];rfl
theorem capI{k:Nat}(h:k≤1000000000):qbe k 8:=by unfold qbe;omega

def idxW(v:Int):List Int->Int->Int
 | [],_=>-1
 | x::r,k=>if v=x then k else idxW v r (k+1)
theorem q9w(v:Int):∀(l:List Int) (k:Int),0≤k->(decide (0≤idxW v l k)=decide (v∈l))
 | [],k,h=>by simp[idxW]
 | x :: r, k, h => by
   rw[idxW]
   by_cases hx:v=x
   ·simp[hx,h]
   ·rw[if_neg hx,q9w v r (k+1) (by omega)];simp[hx]
theorem qlp(l:List Int)(v:Int):qp Tryz.prog 122 [.sl 1 (ints l),.int .i64 v] (.int .i64 (idxW v l 0)):=by
 refine qe c0x (by simp) (by simp only[go_sem]) rfl fun hw=>?_
 have hl:l.length≤maxLen:=by have:=hw.1.1;rwa [qdq] at this
 repeat'(first|refine vs_ ?_|((first|refine vr_ ?_|(refine cs_ ?_ ?_<;>intro hc)|refine cj_ ?_|simp (disch:=omega) only[qa,qc])<;>try refine ev_ ?_)|with_reducible exact ti_)
 refine qo (S:=Nat) (fun i=>i≤l.length∧idxW v (l.drop i) i=idxW v l 0) (fun i=>(⟨[(0,.sl 1 (ints l)),(1,.int .i64 v),(7,.int .i64 l.length),(8,.int .i64 i)],[]⟩,[])) (fun i=>l.length-i) ?_ fun i hi=>?_
 ·refine qj 0 [] ⟨Nat.zero_le _,rfl⟩ rfl (by simp) ?_ ?_ ?_<;>(try refine ev_ ?_)<;>(try with_reducible exact ti_)<;>(try simp (disch:=omega) only[qc,and_true,true_and])
 ·obtain⟨hi,ha⟩:=hi
  repeat'(first|refine vs_ ?_|(refine vr_ ?_<;>try simp (disch:=first|omega|(simp only[List.length_set,List.length_append,List.length_cons,List.length_nil];try omega)) only[qor,qc,go_sem,↓reduceIte])|((first|(refine cs_ ?_ ?_<;>intro hc)|refine cj_ ?_|simp (disch:=omega) only[qa,qc])<;>try refine ev_ ?_)|with_reducible exact ti_)
  ·rw[←ha,qbpt (by omega),idxW,if_pos (by assumption)]
  ·refine qj (i+1) [] ⟨⟨by omega,?_⟩,by omega⟩ rfl (by simp) ?_ ?_ ?_<;>(try refine ev_ ?_)<;>(try with_reducible exact ti_)<;>(try simp (disch:=omega) only[qc,and_true,true_and])
   rw[←ha,qbpt (l:=l) (i:=i) (by omega),idxW,if_neg (by assumption)];rfl
  ·rw[←ha,List.drop_of_length_le (by omega)];rfl
theorem qcm(l:List Int)(v:Int):qp Tryz.prog 144 [.sl 1 (ints l),.int .i64 v] (.bool (decide (v∈l))):=by
 refine qe c0y (by simp) (by simp only[go_sem]) rfl fun hw=>?_
 repeat'(first|refine vs_ ?_|((first|refine vr_ ?_|refine qb (qlp _ _) fun _=>?_|(refine cs_ ?_ ?_<;>intro hc)|refine cj_ ?_)<;>try refine ev_ ?_)|with_reducible exact ti_)
 rw[q9w v l 0 (by omega)]
/-! each once -/
theorem qdu{H:List Ent}{n:Nat}:co H (.sl n) .nils=.sl n []:=Eq.trans rfl rfl
theorem qk9(acc:List Int){l:List Int}{i:Nat}(h:i<l.length):qbm acc (l.drop i)=if l.getD i 0∈acc then qbm acc (l.drop (i+1)) else qbm (acc++[l.getD i 0]) (l.drop (i+1)):=by
 rw[qbpt h,qbm]
/-! all variables -/
/-! the program's: a walk that gathers -/
def outE(l:List Int):Ent:=bun (.blk [accV 1 (ints l)]::accE 1 (ints l))
def outN(l:List Int)(t:Ty):List Int:=if t.con=[] then(if t.var∈l then l else l++[t.var]) else l
theorem qh7{H':List Ent}{l:List Int}{r:AV}(k:Nat)(h0:l≠[])(hk:0<k)(hl:k<H'.length)(e0:ent H' 0=.blk [.row k l.length])(e1:ent H' k=.app 1 (ints l))(hr:r.bd 1=true):
 qc9 (fun H' o=>H'=[outE l]∧o=.val r) H' (.val r):=by
 refine⟨[.blk [.row 1 l.length],.app 1 (ints l)],[0,k],rfl,by simp,by simp;omega,?_,hr,?_,rfl⟩
 ·simp only[qel,List.length_cons,List.length_nil,Ent.bd,AV.bds,AV.bd,Ent.ren,AV.rens,AV.ren,e0,e1,qe2,qj0]
  exact⟨⟨by omega,rfl,rfl⟩,⟨hl,trivial,trivial⟩,trivial⟩
 ·rw[outE,qm (qbu h0),qn (qbu h0),qdq]
theorem q4e{H':List Ent}{r:AV}(hl:0<H'.length)(e0:ent H' 0=.blk [.nils])(hr:r.bd 1=true):
 qc9 (fun H' o=>H'=[outE []]∧o=.val r) H' (.val r):=by
 refine⟨[.blk [.nils]],[0],rfl,by simp,by simp,?_,hr,rfl,rfl⟩
 exact⟨⟨hl,rfl,by rw[e0];rfl⟩,trivial⟩
theorem qcle(l:List Int)(t:Ty)(k:Int)(hb:l.length≤1000000):VM Tryz.prog 195 (outE l) (outE (outN l t)) [encY t,.int .i64 k,.ptr 0 0] (.bool true):=by
 refine qek ?_ (by simp[AV.bds,AV.bd,q8])
 have hcap:qbe (l.length+1) 8=True:=eq_true (capI (by omega))
 refine qlh c0z (by simp) ?_
 by_cases h0:l=[]
 ·subst h0
  simp only[qdf,qi,qk]
  repeat'(first|refine vs_ ?_|(refine vr_ ?_<;>try simp only[qdu,go_sem,↓reduceIte])|((first|simp (disch:=omega) only[hcap]|(refine cs_ ?_ ?_<;>intro hc)|refine cj_ ?_|fail|refine qb (qcm [] _) fun _=>?_)<;>try refine ev_ ?_)|with_reducible exact ti_)
  ·have:outN [] t=[t.var]:=by rw[outN,if_pos (by assumption),if_neg (by assumption)];rfl
   rw[this]
   exact qh7 (l:=[t.var]) 2 (by simp) (by omega) (by simp) rfl rfl rfl
  ·exact absurd (by assumption:t.var∈[]) (by simp)
  ·have:outN [] t=[]:=by rw[outN,if_neg (by assumption)]
   rw[this]
   exact q4e (by simp) rfl rfl
 ·simp only[qm (qbu h0),qn (qbu h0)]
  repeat'(first|refine vs_ ?_|((first|refine vr_ ?_|refine qb (qcm l _) fun _=>?_|simp (disch:=omega) only[hcap]|(refine cs_ ?_ ?_<;>intro hc)|refine cj_ ?_)<;>try refine ev_ ?_)|with_reducible exact ti_)
  ·have:outN l t=l++[t.var]:=by rw[outN,if_pos (by assumption),if_neg (by assumption)]
   rw[this,qjn]
   exact qh7 (l:=l++[t.var]) 3 (by simp) (by omega) (by simp) (by simp[ent]) rfl rfl
  ·have:outN l t=l:=by rw[outN,if_pos (by assumption),if_pos (by assumption)]
   rw[this]
   exact qh7 (l:=l) 1 h0 (by omega) (by simp) rfl rfl rfl
  ·have:outN l t=l:=by rw[outN,if_neg (by assumption)]
   rw[this]
   exact qh7 (l:=l) 1 h0 (by omega) (by simp) rfl rfl rfl
def q4n(l:List Int)(t:Ty)(_:Int):List Int×Bool:=(outN l t,true)
theorem q6w(l:List Int)(c:List UInt8)(v:Int)(a:List Ty):outN l (.mk c v a)=qbm l (if c=[] then [v] else []):=by
 unfold outN
 by_cases hcn:c=[]
 ·rw[if_pos (show(Ty.mk c v a).con=[] from hcn),if_pos hcn];rfl
 ·rw[if_neg (show ¬(Ty.mk c v a).con=[] from hcn),if_neg hcn];rfl
mutual
theorem qchu:∀(t:Ty) (l:List Int) (k:Int),qdb q4n t l k=(qbm l (varY t),true)
 | .mk c v a, l, k => by
   rw[qdb,if_pos (show(q4n l (.mk c v a) k).2=true from rfl),qblu,varY,qg1]
   congr 2
   exact q6w l c v a
theorem qblu:∀(a:List Ty) (l:List Int) (k:Int),qcd q4n a l k=(qbm l (qdt a),true)
 | [],l,k=>by rw[qcd,qdt];rfl
 | x :: r, l, k => by
   rw[qcd,qchu x,if_pos rfl,qblu r,qdt,qg1]
end
theorem qbfj(l:List Int)(t:Ty):(outN l t).length≤l.length+1:=by
 rw[outN];split
 ·split
  ·omega
  ·simp
 ·omega
theorem q1o(t:Ty)(hb:szY t≤1000000):qp Tryz.prog 143 [encY t] (.sl 1 (ints (qbm [] (varY t)))):=by
 refine qe c0ba (by simp) (by simp only[go_sem]) (qe2 0 _) fun hw=>?_
 have hwalk:=qkn (st:=outE) (step:=q4n) (f:=195) (ok:=fun n l=>l.length+n≤1000000) (fun _=>rfl) (fun n l t k h=>by have:=qbfj l t;simp only[q4n];omega) (fun n l h=>by omega) (fun l t k h=>qcle l t k (by omega)) t [] 1 (by simpa using hb)
 rw[qchu] at hwalk
 unfold k0ba
 refine qij (qil ?_)
 (refine ev_ ?_;(try with_reducible exact ti_))
 refine qij (qil ?_)
 (refine ev_ ?_;(try with_reducible exact ti_))
 refine qyh 1 rfl rfl ?_
 refine qij (qil ?_)
 simp only[List.set_cons_succ,List.set_cons_zero]
 (refine ev_ ?_;(try with_reducible exact ti_))
 refine qcw 1 hwalk ?_
 simp only[List.set_cons_succ,List.set_cons_zero]
 (refine ev_ ?_;(try with_reducible exact ti_))
 refine q9b 1 rfl (by simp) ?_
 simp only[List.set_cons_succ,List.set_cons_zero]
 by_cases h0:qbm [] (varY t)=[]
 ·simp only[h0,qdf,qi,qk]
  repeat'(first|refine vs_ ?_|((first|refine vr_ ?_|(refine cs_ ?_ ?_<;>intro hc)|refine cj_ ?_)<;>try refine ev_ ?_)|with_reducible exact ti_)
 ·simp only[qm (qbu h0),qn (qbu h0)]
  repeat'(first|refine vs_ ?_|((first|refine vr_ ?_|(refine cs_ ?_ ?_<;>intro hc)|refine cj_ ?_)<;>try refine ev_ ?_)|with_reducible exact ti_)
set_option maxRecDepth 4000

/-! the program's -/
abbrev numE(n:Int):Ent:=.blk [.int .i64 n]
def qg3(n:Int)(t:Ty)(k:Int):Int×Bool:=(IntKind.i64.wrap (n+1),decide (IntKind.i64.wrap (n+1)≤4096)&&(decide (k≤100)&&mayY t))
theorem qcdk(n:Int)(t:Ty)(k:Int):VM Tryz.prog 100 (numE n) (numE (qg3 n t k).1) [encY t,.int .i64 k,.ptr 0 0] (.bool (qg3 n t k).2):=by
 refine qfq (by kernel_rfl) fun hw=>?_
 have hk:=qe6 hw.1
 refine qd c0p 1 (by simp) (by simp) ?_
 repeat'(first|refine vs_ ?_|((first|refine vr_ ?_|refine qb (qq8 _) fun _=>?_|refine qb (qbjo _ _ _) fun _=>?_|(refine cs_ ?_ ?_<;>intro hc)|refine cj_ ?_|simp (disch:=omega) only[qa,qc])<;>try refine ev_ ?_)|with_reducible exact ti_)
 ·simp_all[qg3]
 ·exact⟨rfl,by simp only[qg3, *,decide_true,decide_false,Bool.true_and,Bool.false_and]⟩
 ·exact⟨rfl,by simp only[qg3, *,decide_true,decide_false,Bool.true_and,Bool.false_and]⟩
def qxv(n:Int)(_:Ty)(_:Int):Int×Bool:=(IntKind.i64.wrap (n+1),true)
theorem qclx(n:Int)(t:Ty)(k:Int):VM Tryz.prog 175 (numE n) (numE (qxv n t k).1) [encY t,.int .i64 k,.ptr 0 0] (.bool (qxv n t k).2):=by
 refine qd c0q 1 (by simp) (by simp) ?_
 repeat'(first|refine vs_ ?_|((first|refine vr_ ?_|(refine cs_ ?_ ?_<;>intro hc)|refine cj_ ?_|simp (disch:=omega) only[qa,qc])<;>try refine ev_ ?_)|with_reducible exact ti_)
 exact⟨rfl,rfl⟩
def qu0(n:Int)(_:Ty)(k:Int):Int×Bool:=(if k > n then k else n,true)
theorem qchi(n:Int)(t:Ty)(k:Int):VM Tryz.prog 176 (numE n) (numE (qu0 n t k).1) [encY t,.int .i64 k,.ptr 0 0] (.bool (qu0 n t k).2):=by
 refine qd c0r 1 (by simp) (by simp) ?_
 repeat'(first|refine vs_ ?_|((first|refine vr_ ?_|(refine cs_ ?_ ?_<;>intro hc)|refine cj_ ?_)<;>try refine ev_ ?_)|with_reducible exact ti_)
 exact⟨rfl,rfl⟩
theorem qsg{f:FuncId}{step:Int->Ty->Int->Int×Bool}(h:∀n t k,VM Tryz.prog f (numE n) (numE (step n t k).1) [encY t,.int .i64 k,.ptr 0 0] (.bool (step n t k).2))(t:Ty)(n k:Int):
 VM Tryz.prog 99 (numE n) (numE (qdb step t n k).1) [encY t,.int .i64 k,.fn f [] [.ptr 0 0]] (.bool (qdb step t n k).2) :=
 qkn (st:=numE) (ok:=fun _ _=>True) (fun _=>rfl) (fun _ _ _ _ _=>trivial) (fun _ _ _=>trivial) (fun n t k _=>h n t k) t n k trivial
def qyz(t:Ty):Bool:=(qdb qg3 t 0 1).2
theorem qnt(t:Ty):qp Tryz.prog 67 [encY t] (.bool (qyz t)):=by
 refine qe c0s (by simp) (by simp only[go_sem]) rfl fun hw=>?_
 repeat'(first|refine vs_ ?_|((first|refine vr_ ?_|refine qcw 1 (qsg qcdk t 0 1) ?_|(refine cs_ ?_ ?_<;>intro hc)|refine cj_ ?_)<;>try refine ev_ ?_)|with_reducible exact ti_)
 rfl
theorem q3y(t:Ty):qp Tryz.prog 124 [encY t] (.int .i64 (qdb qxv t 0 1).1):=by
 refine qe c0t (by simp) (by simp only[go_sem]) rfl fun hw=>?_
 repeat'(first|refine vs_ ?_|((first|refine vr_ ?_|refine qcw 1 (qsg qclx t 0 1) ?_|(refine cs_ ?_ ?_<;>intro hc)|refine cj_ ?_)<;>try refine ev_ ?_)|with_reducible exact ti_)
theorem qxn(t:Ty):qp Tryz.prog 125 [encY t] (.int .i64 (qdb qu0 t 0 1).1):=by
 refine qe c0u (by simp) (by simp only[go_sem]) rfl fun hw=>?_
 repeat'(first|refine vs_ ?_|((first|refine vr_ ?_|refine qcw 1 (qsg qchi t 0 1) ?_|(refine cs_ ?_ ?_<;>intro hc)|refine cj_ ?_)<;>try refine ev_ ?_)|with_reducible exact ti_)

/-! the references -/
mutual
def qbbq:Ty->Int
 | .mk _ _ l=>qn0 1 l
def qn0:Int->List Ty->Int
 | a,[]=>a
 | a,x::r=>qn0 (IntKind.i64.wrap (a+qbbq x)) r
end
mutual
def qc5:Ty->Bool
 | .mk c v l=>qc0 l&&mayW c v l.length
def qc0:List Ty->Bool
 | []=>true
 | x::r=>qc5 x&&qc0 r
end
theorem qg2(t:Ty):qc5 t=(qc0 t.args&&mayY t):=by cases t;rw[qc5];rfl
/-! Few -/
mutual
def cntY:Ty->Int->Int->Int
 | .mk _ _ l,k,d=>if d<1 then -1 else qrg l (IntKind.i64.wrap (k-1)) d
def qrg:List Ty->Int->Int->Int
 | [],a,_=>a
 | x::r,a,d=>if 0≤a then qrg r (cntY x a (IntKind.i64.wrap (d-1))) d else a
end
theorem qbo3(t:Ty)(k d:Int):cntY t k d=if d<1 then -1 else qrg t.args (IntKind.i64.wrap (k-1)) d:=by cases t;rw[cntY];rfl
theorem q49{a:Int}(h:a<0)(l:List Ty)(d:Int):qrg l a d=a:=by
 cases l with
 | nil=>rw[qrg]
 | cons x r=>rw[qrg,if_neg (by omega)]
theorem qbr4:∀t k d,qp Tryz.prog 37 [encY t,.int .i64 k,.int .i64 d] (.int .i64 (cntY t k d)):=by
 refine Ty.ind fun t ih k d=>?_
 refine qe c0v (by simp) (by simp only[go_sem]) rfl fun hw=>?_
 have hk:=qe6 hw.1
 rw[qbo3]
 repeat'(first|refine vs_ ?_|((first|refine vr_ ?_|(refine cs_ ?_ ?_<;>intro hc)|refine cj_ ?_|simp (disch:=omega) only[qa,qc])<;>try refine ev_ ?_)|with_reducible exact ti_)
 ·rw[if_pos (by assumption)]
 rw[if_neg (by assumption)]
 refine qo (S:=Nat×Int) (fun s=>s.1≤t.args.length∧qrg (t.args.drop s.1) s.2 d=qrg t.args (IntKind.i64.wrap (k-1)) d) (fun s=>(⟨[(1,.int .i64 s.2),(2,.int .i64 d),(3,.ptr 0 0),(7,.int .i64 s.1)],[]⟩,[.blk (yc t)])) (fun s=>t.args.length-s.1) ?_ fun s hs=>?_
 ·refine qj (0,IntKind.i64.wrap (k-1)) [0] ⟨Nat.zero_le _,rfl⟩ rfl (by simp) ?_ ?_ ?_<;>(try refine ev_ ?_)<;>(try with_reducible exact ti_)<;>(try simp (disch:=omega) only[qc,and_true,true_and])
 ·obtain⟨i,a⟩:=s
  obtain⟨hi,ha⟩:=hs
  dsimp only at hi ha
  repeat'(first|refine vs_ ?_|(refine vr_ ?_<;>try simp (disch:=first|omega|(simp only[List.length_set,List.length_append,List.length_cons,List.length_nil];try omega)) only[qbb,qc,go_sem,↓reduceIte])|((first|(refine cs_ ?_ ?_<;>intro hc)|refine cj_ ?_|simp (disch:=omega) only[qa,qc]|refine qb (ih _ (qcn (by omega)) _ _) fun _=>?_)<;>try refine ev_ ?_)|with_reducible exact ti_)
  ·refine qj (i+1,cntY (t.args.getD i Y0) a (IntKind.i64.wrap (d-1))) [0] ⟨⟨by dsimp only;omega,?_⟩,by dsimp only;omega⟩ rfl (by simp) ?_ ?_ ?_<;>(try refine ev_ ?_)<;>(try with_reducible exact ti_)<;>(try simp (disch:=omega) only[qc,and_true,true_and])
   rw[←ha,qsn (l:=t.args) (i:=i) (by omega),qrg,if_pos (by assumption)]
  ·rw[←ha,q49 (by omega)]
  ·rw[←ha,List.drop_of_length_le (by omega)];rfl
def q3w(a:Int):List Ty->Int
 | []=>a
 | x::r=>q3w (cntY x a 300) r
def qz4(l:List Ty):Bool:=decide (0≤q3w 20000 l)
theorem qbba(l:List Ty):qp Tryz.prog 8 [.sl 3 (qh l)] (.int .i64 (if qz4 l=true then 1 else 0)):=by
 refine qe c0w (by simp) (by simp only[go_sem]) rfl fun hw=>?_
 have hk:l.length≤maxLen:=by have:=hw.1.1;rwa [qg] at this
 repeat'(first|refine vs_ ?_|((first|refine vr_ ?_|(refine cs_ ?_ ?_<;>intro hc)|refine cj_ ?_|simp (disch:=omega) only[qa,qc])<;>try refine ev_ ?_)|with_reducible exact ti_)
 refine qo (S:=Nat×Int) (fun s=>s.1≤l.length∧q3w s.2 (l.drop s.1)=q3w 20000 l) (fun s=>(⟨[(0,.sl 3 (qh l)),(3,.int .i64 s.2),(4,.int .i64 s.1)],[]⟩,[])) (fun s=>l.length-s.1) ?_ fun s hs=>?_
 ·refine qj (0,20000) [] ⟨Nat.zero_le _,rfl⟩ rfl (by simp) ?_ ?_ ?_<;>(try refine ev_ ?_)<;>(try with_reducible exact ti_)<;>(try simp (disch:=omega) only[qc,and_true,true_and])
 ·obtain⟨i,a⟩:=s
  obtain⟨hi,ha⟩:=hs
  dsimp only at hi ha
  repeat'(first|refine vs_ ?_|(refine vr_ ?_<;>try simp (disch:=first|omega|(simp only[List.length_set,List.length_append,List.length_cons,List.length_nil];try omega)) only[qbb,qc,go_sem,↓reduceIte])|((first|(refine cs_ ?_ ?_<;>intro hc)|refine cj_ ?_|simp (disch:=omega) only[qa,qc]|refine qb (qbr4 _ _ _) fun _=>?_)<;>try refine ev_ ?_)|with_reducible exact ti_)
  ·refine qj (i+1,cntY (l.getD i Y0) a 300) [] ⟨⟨by dsimp only;omega,?_⟩,by dsimp only;omega⟩ rfl (by simp) ?_ ?_ ?_<;>(try refine ev_ ?_)<;>(try with_reducible exact ti_)<;>(try simp (disch:=omega) only[qc,and_true,true_and])
   rw[←ha,qsn (l:=l) (i:=i) (by omega),q3w]
  all_goals
   have hf:q3w 20000 l=a:=by rw[←ha,List.drop_of_length_le (by omega)];rfl
   rw[qz4,hf]
  ·rw[if_neg (by simp;omega)]
  ·rw[if_pos (by simp;omega)]

/-! the laws of sizes -/
mutual
theorem q1a:∀(t:Ty),szY t≤1000000->qbbq t=szY t
 | .mk c v l, h => by
   rw[szY] at h
   rw[qbbq,szY,qnd l 1 (by omega) (by omega)]
   omega
theorem qnd:∀(l:List Ty) (a:Int),1≤a->a+szYs l≤1000001->qn0 a l=a+szYs l
 | [],a,_,_=>by rw[qn0,szYs];omega
 | x :: r, a, h0, h => by
   rw[szYs] at h
   rw[qn0,q1a x (by omega),qz (by omega) (by omega),qnd r _ (by omega) (by omega),szYs]
   omega
end
mutual
theorem qvx:∀(t:Ty) (n k:Int),0≤n->n+szY t≤1000000->qdb qxv t n k=(n+szY t,true)
 | .mk c v l, n, k, h0, h => by
   rw[szY] at h
   rw[qdb,if_pos (show(qxv n (.mk c v l) k).2=true from rfl)]
   have h1:(qxv n (.mk c v l) k).1=n+1:=qz (by omega) (by omega)
   rw[h1,qqb l _ _ (by omega) (by omega),szY]
   congr 1;omega
theorem qqb:∀(l:List Ty) (n k:Int),0≤n->n+szYs l≤1000000->qcd qxv l n k=(n+szYs l,true)
 | [],n,k,_,_=>by rw[qcd,szYs];congr 1;omega
 | x :: r, n, k, h0, h => by
   rw[szYs] at h
   rw[qcd,qvx x n k h0 (by omega),if_pos rfl,qqb r _ k (by omega) (by omega),szYs]
   congr 1;omega
end
mutual
theorem qte:∀(t:Ty) (n k:Int),0≤n->1≤k->k+dpY t≤1000000->qdb qu0 t n k=(max n (k+dpY t-1),true)
 | .mk c v l, n, k, h0, h1, h => by
   rw[dpY] at h
   rw[qdb,if_pos (show(qu0 n (.mk c v l) k).2=true from rfl)]
   have h2:(qu0 n (.mk c v l) k).1=max n k:=by simp only[qu0];split<;>omega
   rw[h2,qz (z:=k+1) (by omega) (by omega),qp2 l _ _ (by omega) (by omega) (by omega),dpY]
   congr 1;split<;>omega
theorem qp2:∀(l:List Ty) (n k:Int),0≤n->1≤k->k+dpYs l≤1000000->qcd qu0 l n k=(if dpYs l=0 then n else max n (k+dpYs l-1),true)
 | [],n,k,_,_,_=>by rw[qcd,dpYs,if_pos rfl]
 | x :: r, n, k, h0, h1, h => by
   rw[dpYs] at h
   have hp:=qrh x
   rw[qcd,qte x n k h0 h1 (by omega),if_pos rfl,qp2 r _ k (by omega) h1 (by omega),dpYs]
   congr 1
   rw[if_neg (by omega:¬max (dpY x) (dpYs r)=0)]
   split<;>omega
end
mutual
theorem qv0:∀(t:Ty) (n k:Int),0≤n->n+szY t≤1000000->1≤k->k+dpY t≤1000000 →
 ((qdb qg3 t n k).2=true↔n+szY t≤4096∧k+dpY t-1≤100∧qc5 t=true)∧((qdb qg3 t n k).2=true->(qdb qg3 t n k).1=n+szY t)
 | .mk c v l, n, k, h0, h1, h2, h3 => by
   rw[szY] at h1
   rw[dpY] at h3
   have e1:IntKind.i64.wrap (n+1)=n+1:=qz (by omega) (by omega)
   have e2:IntKind.i64.wrap (k+1)=k+1:=qz (by omega) (by omega)
   have e3:(qg3 n (.mk c v l) k).1=n+1:=e1
   have e4:(qg3 n (.mk c v l) k).2=true↔n+1≤4096∧k≤100∧mayW c v l.length=true:=by
    simp only[qg3,e1,Bool.and_eq_true,decide_eq_true_eq];rfl
   rw[qdb,szY,dpY,qc5]
   by_cases hs:(qg3 n (.mk c v l) k).2=true
   ·rw[if_pos hs,e3,e2]
    obtain⟨q1,q2,q3⟩:=e4.1 hs
    obtain⟨r1,r2⟩:=qqq l (n+1) (k+1) (by omega) (by omega) (by omega) (by omega) (by omega) (by omega)
    refine⟨?_,fun h=>by rw[r2 h];omega⟩
    rw[r1,q3,Bool.and_true]
    constructor
    ·rintro⟨a1,a2,a3⟩;exact⟨by omega,by omega,a3⟩
    ·rintro⟨a1,a2,a3⟩;exact⟨by omega,by omega,a3⟩
   ·rw[if_neg hs]
    refine⟨⟨fun h=>(by cases h),fun ⟨a1,a2,a3⟩=>absurd (e4.2 ⟨by omega,by omega,(by rw[Bool.and_eq_true] at a3;exact a3.2)⟩) hs⟩,fun h=>by cases h⟩
theorem qqq:∀(l:List Ty) (n k:Int),0≤n->n+szYs l≤1000000->1≤k->k+dpYs l≤1000000->n≤4096->k-1≤100 →
 ((qcd qg3 l n k).2=true↔n+szYs l≤4096∧k+dpYs l-1≤100∧qc0 l=true)∧((qcd qg3 l n k).2=true->(qcd qg3 l n k).1=n+szYs l)
 | [], n, k, h0, h1, h2, h3, h4, h5 => by
   rw[qcd,szYs,dpYs,qc0]
   exact⟨⟨fun _=>⟨by omega,by omega,rfl⟩,fun _=>rfl⟩,fun _=>by simp⟩
 | x :: r, n, k, h0, h1, h2, h3, h4, h5 => by
   rw[szYs] at h1
   rw[dpYs] at h3
   obtain⟨q1,q2⟩:=qv0 x n k h0 (by omega) h2 (by omega)
   rw[qcd,szYs,dpYs,qc0]
   by_cases hs:(qdb qg3 x n k).2=true
   ·rw[if_pos hs,q2 hs]
    obtain⟨a1,a2,a3⟩:=q1.1 hs
    obtain⟨r1,r2⟩:=qqq r (n+szY x) k (by omega) (by omega) h2 (by omega) (by omega) h5
    refine⟨?_,fun h=>by rw[r2 h];omega⟩
    rw[r1,a3,Bool.true_and]
    constructor
    ·rintro⟨b1,b2,b3⟩;exact⟨by omega,by omega,b3⟩
    ·rintro⟨b1,b2,b3⟩;exact⟨by omega,by omega,b3⟩
   ·rw[if_neg hs]
    refine⟨⟨fun h=>(by cases h),fun ⟨a1,a2,a3⟩=>absurd (q1.2 ⟨by omega,by omega,?_⟩) hs⟩,fun h=>by cases h⟩
    rw[Bool.and_eq_true] at a3
    exact a3.1
end
def qq(t:Ty):Bool:=decide (szY t≤4096)&&(decide (dpY t≤100)&&qc5 t)
theorem q6d{t:Ty}(h1:szY t≤20000)(h2:dpY t≤300):qyz t=qq t:=by
 have:=(qv0 t 0 1 (by omega) (by omega) (by omega) (by omega)).1
 rw[qyz,Bool.eq_iff_iff,this,qq,Bool.and_eq_true,Bool.and_eq_true,decide_eq_true_eq,decide_eq_true_eq]
 constructor
 ·rintro⟨a1,a2,a3⟩;exact⟨by omega,by omega,a3⟩
 ·rintro⟨a1,a2,a3⟩;exact⟨by omega,by omega,a3⟩
theorem qee{t:Ty}(h1:szY t≤20000)(h2:dpY t≤300):qp Tryz.prog 67 [encY t] (.bool (qq t)):=by
 rw[←q6d h1 h2];exact qnt t
end Go.Proofs.YtkenggenkmfopaaGreat
