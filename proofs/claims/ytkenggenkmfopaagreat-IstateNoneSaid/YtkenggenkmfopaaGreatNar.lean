/- Texts of this proof, joined. -/
import Derived.Test.YtkenggenkmfopaaGreatNan
import Derived.Test.YtkenggenkmfopaaGreatNap
import Derived.Test.YtkenggenkmfopaaGreatNaq
import Derived.Test.YtkenggenkmfopaaGreatNal
set_option linter.unusedVariables false
set_option linter.unusedSimpArgs false

/- terms: heads, sameness, the walk over a term -/
set_option maxRecDepth 4000
namespace Go.Proofs.YtkenggenkmfopaaGreat
open Go Go.RowKit Go.V

abbrev hdA (t:Ty):AV:=.agg [.str t.con,.int .i64 t.var,.int .i64 t.args.length]
theorem qes {t:Ty} (hw:(encY t).wf):t.args.length≤maxLen:=((q1c t).1 hw).1
attribute [go_sem] hdA
theorem qnh (t:Ty):qi Tryz.prog 101 [encY t] (hdA t):=by
 refine qd c0by (by simp) (by simp only [go_sem]) rfl fun hw=>?_
 have hk:=qes hw.1
 repeat' (first | refine vs_ ?_ | ((first | refine vr_ ?_ | (refine cs_ ?_ ?_<;>intro hc) | refine cj_ ?_ | fail)<;>(try refine ev_ ?_)) | with_reducible exact ti_)
 all_goals (try rfl)
theorem q7i {a b:Ty} {i:Nat} (h1:a.con = b.con) (h2:a.var = b.var) (ha:qc1 (a.args.drop i) (b.args.drop i) = qc1 a.args b.args):qvb a b = qc1 (a.args.drop i) (b.args.drop i):=by
 rw [ha,qii];simp [h1,h2]
theorem qll:∀ a b,qi Tryz.prog 16 [encY a,encY b] (.bool (qvb a b)):=by
 refine Ty.ind fun a ih b=>?_
 refine qd c0bz (by simp) (by simp only [go_sem]) rfl fun hw=>?_
 have hkl:=qes hw.1
 have hkr:=qes hw.2.1
 repeat' (first | refine vs_ ?_ | ((first | refine vr_ ?_ | (refine cs_ ?_ ?_<;>intro hc) | refine cj_ ?_ | simp (disch:=omega) only [encs_getN,qb])<;>(try refine ev_ ?_)) | with_reducible exact ti_)
 ·rw [qii];simp [*]
 ·rw [qii];simp [*]
 ·rw [qii,qlj (by omega)];simp
 rename_i h1 h2
 refine qp (S:=Nat) (fun i=>i≤a.args.length∧qc1 (a.args.drop i) (b.args.drop i) = qc1 a.args b.args) (fun i=>(⟨[(2,.ptr 0 0),(3,.ptr 1 0),(5,.int .i64 i)],[]⟩,[.blk (yc a),.blk (yc b)])) (fun i=>a.args.length - i) ?_ fun i hi=>?_
 ·refine qm 0 [0,1] ⟨Nat.zero_le _,rfl⟩ rfl (by simp) ?_ ?_ ?_<;>(try refine ev_ ?_)<;>(try with_reducible exact ti_)<;>(try simp (disch:=omega) only [qb,and_true,true_and])
 ·obtain ⟨hi,ha⟩:=hi
  have hf:=q7i h1 h2 ha
  repeat' (first | refine vs_ ?_ | ((first | refine vr_ ?_ | fail)<;>(try simp (disch:=first | omega | (simp only [List.length_set,List.length_append,List.length_cons,List.length_nil];done) | (simp only [List.length_set,List.length_append,List.length_cons,List.length_nil];omega)) only [qv,qb,go_sem,↓reduceIte])) | ((first | (refine cs_ ?_ ?_<;>intro hc) | refine cj_ ?_ | simp (disch:=omega) only [encs_getN,qb] | refine qa (ih _ (qbx (by omega)) _) fun _=>?_ | refine qg (ih _ (qbx (by omega)) _) ?_)<;>(try refine ev_ ?_)) | with_reducible exact ti_)
  ·rw [hf,qkl (by omega) (by omega),hc];rfl
  ·refine qm (i + 1) [0,1] ⟨⟨by omega,?_⟩,by omega⟩ rfl (by simp) ?_ ?_ ?_<;>(try refine ev_ ?_)<;>(try with_reducible exact ti_)<;>(try simp (disch:=omega) only [qb,and_true,true_and])
   rw [← ha,qkl (l:=a.args) (l':=b.args) (i:=i) (by omega) (by omega),hc,Bool.true_and]
  ·rw [hf,quu (by omega) (by omega)]
/-! heads -/
attribute [go_sem] q5c
def fixW (s:List UInt8):Bool:=pfx [33] s && (decide ((qk3 (s.drop 1)).2 = 0) && decide (digI (qk3 (s.drop 1)).1 = s.drop 1))
theorem qbbz {c:UInt8} {s:List UInt8} (h:pfx [c] s = true):1≤s.length:=by
 cases s with
 | nil=>simp [pfx] at h
 | cons d r=>simp
theorem qqx (s:List UInt8):qi Tryz.prog 152 [.str s] (.bool (fixW s)):=by
 refine qd c0ca (by simp) (by simp only [go_sem]) rfl fun hw=>?_
 cases hp:pfx [33] s with
 | false =>
   repeat' (first | refine vs_ ?_ | ((first | refine vr_ ?_ | fail)<;>(try simp only [hp,go_sem,↓reduceIte])) | ((first | (refine cs_ ?_ ?_<;>intro hc) | refine cj_ ?_ | fail | refine qa (qb2 _ _) fun _=>?_ | refine qg (qb2 _ _) ?_)<;>(try refine ev_ ?_)) | with_reducible exact ti_)
   simp [fixW,hp]
 | true =>
   have hl:=qbbz hp
   repeat' (first | refine vs_ ?_ | ((first | refine vr_ ?_ | fail)<;>(try simp only [hp,go_sem,↓reduceIte])) | ((first | (refine cs_ ?_ ?_<;>intro hc) | refine cj_ ?_ | fail | refine qa (qb2 _ _) fun _=>?_ | refine qa (qpd _) fun _=>?_ | refine qa (qeb _) fun _=>?_ | refine qg (qb2 _ _) ?_ | refine qg (qpd _) ?_ | refine qg (qeb _) ?_)<;>(try refine ev_ ?_)) | with_reducible exact ti_)
   all_goals simp_all [fixW]
def mayW (c:List UInt8) (v n:Int):Bool :=
 if c = [] then decide (n = 0) else if c = arrW then decide (v = 0) && decide (n = 2) else if fixW c = true then decide (v = 0) && decide (n = 0) else decide (v = 0) && conW c
theorem q55 (c:List UInt8) (v n:Int):qi Tryz.prog 102 [.agg [.str c,.int .i64 v,.int .i64 n]] (.bool (mayW c v n)):=by
 refine qd c0cb (by simp) (by simp only [go_sem]) rfl fun hw=>?_
 repeat' (first | refine vs_ ?_ | ((first | refine vr_ ?_ | refine qa (qqx _) fun _=>?_ | refine qa (qjv _) fun _=>?_ | (refine cs_ ?_ ?_<;>intro hc) | refine cj_ ?_ | fail)<;>(try refine ev_ ?_)) | with_reducible exact ti_)
 all_goals simp_all [mayW,arrW]
abbrev mayY (t:Ty):Bool:=mayW t.con t.var t.args.length

/-! the walk -/
section
variable {S:Type}
mutual
def qcf (step:S->Ty->Int->S×Bool):Ty->S->Int->S×Bool
 | .mk c v l,s,k=>if (step s (.mk c v l) k).2 = true then qbr step l (step s (.mk c v l) k).1 (IntKind.i64.wrap (k + 1)) else ((step s (.mk c v l) k).1,false)
def qbr (step:S->Ty->Int->S×Bool):List Ty->S->Int->S×Bool
 | [],s,_=>(s,true)
 | x :: r,s,k=>if (qcf step x s k).2 = true then qbr step r (qcf step x s k).1 k else ((qcf step x s k).1,false)
end
theorem qsp (step:S->Ty->Int->S×Bool) (t:Ty) (s:S) (k:Int):qcf step t s k = if (step s t k).2 = true then qbr step t.args (step s t k).1 (IntKind.i64.wrap (k + 1)) else ((step s t k).1,false):=by
 cases t;rw [qcf];rfl
theorem qjr (step:S->Ty->Int->S×Bool) {l:List Ty} {i:Nat} (h:i < l.length) (s:S) (k:Int) :
 qbr step (l.drop i) s k = if (qcf step (l.getD i Y0) s k).2 = true then qbr step (l.drop (i + 1)) (qcf step (l.getD i Y0) s k).1 k else ((qcf step (l.getD i Y0) s k).1,false):=by
 rw [qq7 h,qbr]
theorem qvy (step:S->Ty->Int->S×Bool) {l:List Ty} {i:Nat} (h:l.length≤i) (s:S) (k:Int):qbr step (l.drop i) s k = (s,true):=by
 rw [List.drop_of_length_le h,qbr]
end
section
variable {S:Type} {step:S->Ty->Int->S×Bool} {ok:Nat->S->Prop}
theorem q06 (h2:∀ n s,ok (n + 1) s->ok n s):∀ (d n:Nat) (s:S),ok (n + d) s->ok n s
 | 0,n,s,h=>h
 | d + 1,n,s,h=>q06 h2 d n s (h2 _ _ h)
mutual
theorem q02 (h1:∀ n s t k,ok (n + 1) s->ok n (step s t k).1) (h2:∀ n s,ok (n + 1) s->ok n s):∀ (t:Ty) (s:S) (k:Int) (m:Nat),ok (szY t + m) s->ok m (qcf step t s k).1
 | .mk c v l, s, k, m, h => by
   rw [szY,show 1 + szYs l + m = szYs l + m + 1 by omega] at h
   have h3:=h1 _ s (.mk c v l) k h
   rw [qcf]
   split
   ·exact qsx h1 h2 l _ _ m h3
   ·exact q06 h2 (szYs l) m _ (by rw [Nat.add_comm];exact h3)
theorem qsx (h1:∀ n s t k,ok (n + 1) s->ok n (step s t k).1) (h2:∀ n s,ok (n + 1) s->ok n s):∀ (l:List Ty) (s:S) (k:Int) (m:Nat),ok (szYs l + m) s->ok m (qbr step l s k).1
 | [],s,k,m,h=>by rw [qbr];rw [szYs,Nat.zero_add] at h;exact h
 | x :: r, s, k, m, h => by
   rw [szYs,Nat.add_assoc] at h
   have h3:=q02 h1 h2 x s k _ h
   rw [qbr]
   split
   ·exact qsx h1 h2 r _ _ m h3
   ·exact q06 h2 (szYs r) m _ (by rw [Nat.add_comm];exact h3)
end
end
section
variable {S:Type}
variable {f:FuncId} {st:S->Ent} {step:S->Ty->Int->S×Bool} {ok:Nat->S->Prop} (hb:∀ s,(st s).bd 0 = true) (h1:∀ n s t k,ok (n + 1) s->ok n (step s t k).1) (h2:∀ n s,ok (n + 1) s->ok n s)
 (hs:∀ s t k,ok 1 s->VM Tryz.prog f (st s) (st (step s t k).1) [encY t,.int .i64 k,.ptr 0 0] (.bool (step s t k).2))
include hb h1 h2 hs
theorem qle:∀ t s k,ok (szY t) s->VM Tryz.prog 99 (st s) (st (qcf step t s k).1) [encY t,.int .i64 k,.fn f [] [.ptr 0 0]] (.bool (qcf step t s k).2):=by
 refine Ty.ind fun t ih s k hok=>?_
 have hb1:∀ s k,(st s).bd k = true:=fun s k=>Ent.bd_le (Nat.zero_le _) _ (hb s)
 have hbr:∀ s σ,(st s).ren σ = st s:=fun s σ=>Ent.ren_bd0 (hb s)
 refine qfr (by kernel_rfl) fun hw=>?_
 have hk:=qes hw.1
 have hok1:ok 1 s:=q06 h2 (szYs t.args) 1 s (by rw [← qib];exact hok)
 have hok2:ok (szYs t.args) (step s t k).1:=h1 _ _ _ _ (by rw [Nat.add_comm,← qib];exact hok)
 refine qc c0cc 1 (by simp) (by simp) ?_
 repeat' (first | refine vs_ ?_ | ((first | refine vr_ ?_ | fail)<;>(try simp only [hb1,hbr,go_sem,↓reduceIte])) | ((first | (refine cs_ ?_ ?_<;>intro hc) | refine cj_ ?_ | simp (disch:=omega) only [encs_getN,qb] | refine qbl 0 (hs _ _ _ hok1) ?_ (hb _) (hb _))<;>(try refine ev_ ?_)) | with_reducible exact ti_)
 ·rw [qsp,if_neg (by rw [hc];simp)];exact ⟨hb1 _ _,rfl,rfl⟩
 have hw0:=qsp step t s k
 rw [if_pos hc] at hw0
 generalize qcf step t s k = tg at hw0 ⊢
 generalize hk1:IntKind.i64.wrap (k + 1) = k1 at hw0
 refine qp (S:=Nat×S) (fun x=>x.1≤t.args.length∧qbr step (t.args.drop x.1) x.2 k1 = tg∧ok (szYs (t.args.drop x.1)) x.2) (fun x=>(⟨[(1,.int .i64 k),(2,.fn f [] [.ptr 0 0]),(15,.sl 3 (qj t.args)),(16,.int .i64 t.args.length),(17,.int .i64 x.1)],[]⟩,[st x.2])) (fun x=>t.args.length - x.1) ?_ fun x hx=>?_
 ·refine qs2 (0,(step s t k).1) [.blk (yc t)] ⟨Nat.zero_le _,hw0.symm,hok2⟩ (Nat.le_refl _) rfl (by simp only [List.all_cons,List.all_nil,hb1,Bool.and_true]) ?_ rfl rfl<;>(try refine ev_ ?_)<;>(try with_reducible exact ti_)<;>(try simp (disch:=omega) only [qb,and_true,true_and])
 ·obtain ⟨i,s1⟩:=x
  obtain ⟨hi,hx,hok3⟩:=hx
  dsimp only at hi hx hok3
  have hok4:i < t.args.length->ok (szY (t.args.getD i Y0) + szYs (t.args.drop (i + 1))) s1:=fun h=>by rw [qq7 h,szYs] at hok3;exact hok3
  have hok5:i < t.args.length->ok (szY (t.args.getD i Y0)) s1:=fun h=>q06 h2 _ _ _ (hok4 h)
  repeat' (first | refine vs_ ?_ | ((first | refine vr_ ?_ | fail)<;>(try simp (disch:=first | omega | (simp only [List.length_set,List.length_append,List.length_cons,List.length_nil];done) | (simp only [List.length_set,List.length_append,List.length_cons,List.length_nil];omega)) only [hb1,hbr,qv,qb,hk1,go_sem,↓reduceIte])) | ((first | (refine cs_ ?_ ?_<;>intro hc) | refine cj_ ?_ | simp (disch:=omega) only [encs_getN,qb] | refine qbl 0 (ih (t.args.getD i Y0) (qbx (by omega)) s1 k1 (hok5 (by omega))) ?_ (hb _) (hb _))<;>(try refine ev_ ?_)) | with_reducible exact ti_)
  ·rw [qjr step (by omega),if_neg (by rw [hc];simp)] at hx
   subst hx
   exact ⟨hb1 _ _,rfl,rfl⟩
  ·rw [qjr step (by omega),if_pos (by rw [hc])] at hx
   refine qs2 (i + 1,(qcf step (t.args.getD i Y0) s1 k1).1) [.blk (yc (t.args.getD i Y0))] ⟨⟨by dsimp only;omega,hx,q02 h1 h2 _ _ _ _ (hok4 (by omega))⟩,by dsimp only;omega⟩ (Nat.le_refl _) rfl (by simp only [List.all_cons,List.all_nil,hb1,Bool.and_true]) ?_ rfl rfl<;>(try refine ev_ ?_)<;>(try with_reducible exact ti_)<;>(try simp (disch:=omega) only [qb,and_true,true_and])
  ·rw [qvy step (by omega)] at hx
   subst hx
   exact ⟨hb1 _ _,rfl,rfl⟩
end
set_option maxRecDepth 4000

def ints (l:List Int):List AV:=l.map (AV.int .i64)
theorem qi4 (l:List Int):(ints l).length = l.length:=by simp [ints]
theorem qfl (k:Nat) (l:List Int):AV.bds k (ints l) = true:=by rw [ints,qcn];simp [AV.bd]
theorem qip (σ:Nat->Nat) (l:List Int):AV.rens σ (ints l) = ints l:=ql (m:=0) (fun i hi=>by omega) _ (qfl 0 l)
theorem qyp {l:List Int} {i:Nat} (h:i < l.length):(ints l).getD i .junk = .int .i64 (l.getD i 0):=by
 rw [ints,List.getD_eq_getElem?_getD,List.getElem?_map,List.getElem?_eq_getElem h,List.getD_eq_getElem?_getD,List.getElem?_eq_getElem h];rfl
theorem qwz (l:List Int) (v:Int):ints l ++ [.int .i64 v] = ints (l ++ [v]):=by simp [ints]
attribute [go_sem] qi4 qfl qip cond_false cond_true
theorem qbvl {l:List Int} {i:Nat} (h:i < l.length):l.drop i = l.getD i 0 :: l.drop (i + 1):=by
 rw [List.drop_eq_getElem_cons h,List.getD_eq_getElem?_getD,List.getElem?_eq_getElem h];rfl
def idxW (v:Int):List Int->Int->Int
 | [],_=>-1
 | x :: r,k=>if v = x then k else idxW v r (k + 1)
theorem qnx (l:List Int) (v:Int):qi Tryz.prog 122 [.sl 1 (ints l),.int .i64 v] (.int .i64 (idxW v l 0)):=by
 refine qd c0bx (by simp) (by simp only [go_sem]) rfl fun hw=>?_
 have hl:l.length≤maxLen:=by have:=hw.1.1;rwa [qi4] at this
 repeat' (first | refine vs_ ?_ | ((first | refine vr_ ?_ | (refine cs_ ?_ ?_<;>intro hc) | refine cj_ ?_ | simp (disch:=omega) only [encs_getN,qb])<;>(try refine ev_ ?_)) | with_reducible exact ti_)
 refine qp (S:=Nat) (fun i=>i≤l.length∧idxW v (l.drop i) i = idxW v l 0) (fun i=>(⟨[(0,.sl 1 (ints l)),(1,.int .i64 v),(7,.int .i64 l.length),(8,.int .i64 i)],[]⟩,[])) (fun i=>l.length - i) ?_ fun i hi=>?_
 ·refine qm 0 [] ⟨Nat.zero_le _,rfl⟩ rfl (by simp) ?_ ?_ ?_<;>(try refine ev_ ?_)<;>(try with_reducible exact ti_)<;>(try simp (disch:=omega) only [qb,and_true,true_and])
 ·obtain ⟨hi,ha⟩:=hi
  repeat' (first | refine vs_ ?_ | ((first | refine vr_ ?_ | fail)<;>(try simp (disch:=first | omega | (simp only [List.length_set,List.length_append,List.length_cons,List.length_nil];done) | (simp only [List.length_set,List.length_append,List.length_cons,List.length_nil];omega)) only [qyp,qb,go_sem,↓reduceIte])) | ((first | (refine cs_ ?_ ?_<;>intro hc) | refine cj_ ?_ | simp (disch:=omega) only [encs_getN,qb])<;>(try refine ev_ ?_)) | with_reducible exact ti_)
  ·rw [← ha,qbvl (by omega),idxW,if_pos (by assumption)]
  ·refine qm (i + 1) [] ⟨⟨by omega,?_⟩,by omega⟩ rfl (by simp) ?_ ?_ ?_<;>(try refine ev_ ?_)<;>(try with_reducible exact ti_)<;>(try simp (disch:=omega) only [qb,and_true,true_and])
   rw [← ha,qbvl (l:=l) (i:=i) (by omega),idxW,if_neg (by assumption)];rfl
  ·rw [← ha,List.drop_of_length_le (by omega)];rfl
/-! each once -/
theorem qh3 {H:List Ent} {n:Nat}:co H (.sl n) .nils = .sl n []:=Eq.trans rfl rfl
/-! all variables -/
/-! the program's: a walk that gathers -/
end Go.Proofs.YtkenggenkmfopaaGreat

/- terms as data; those that wait -/
namespace Go.Proofs.YtkenggenkmfopaaGreat
open Go Go.RowKit Go.V

inductive Tm where
 | mk (kind num:Int) (name:List UInt8) (vars:List Int) (types:List Ty) (kids:List Tm)
def Tm.kind:Tm->Int | .mk k _ _ _ _ _=>k
def Tm.num:Tm->Int | .mk _ n _ _ _ _=>n
def Tm.name:Tm->List UInt8 | .mk _ _ s _ _ _=>s
def Tm.vars:Tm->List Int | .mk _ _ _ v _ _=>v
def Tm.types:Tm->List Ty | .mk _ _ _ _ t _=>t
def Tm.kids:Tm->List Tm | .mk _ _ _ _ _ ks=>ks
mutual
def encT:Tm->AV
 | .mk k n s v t ks=>.agg [.int .i64 k,.int .i64 n,.str s,.sl 1 (ints v),.sl 3 (qj t),.sl 6 (qcg ks)]
def qcg:List Tm->List AV
 | []=>[]
 | x :: r=>encT x :: qcg r
end
theorem qcm (l:List Tm):qcg l = l.map encT:=by
 induction l with
 | nil=>rw [qcg];rfl
 | cons x r ih=>rw [qcg,ih];rfl
abbrev tmc (n:Tm):List AV:=[.int .i64 n.kind,.int .i64 n.num,.str n.name,.sl 1 (ints n.vars),.sl 3 (qj n.types),.sl 6 (qcg n.kids)]
theorem qb6 (n:Tm):AV.agg [.int .i64 n.kind,.int .i64 n.num,.str n.name,.sl 1 (ints n.vars),.sl 3 (qj n.types),.sl 6 (qcg n.kids)] = encT n:=by
 cases n;simp only [encT,Tm.kind,Tm.num,Tm.name,Tm.vars,Tm.types,Tm.kids]
theorem qu1 (n:Tm):(encT n).cells = tmc n:=by rw [← qb6];rfl
theorem Tm.ind {p:Tm->Prop} (h:∀ n:Tm,(∀ x∈n.kids,p x)->p n):∀ n,p n:=by
 intro n
 refine Tm.rec (motive_1:=p) (motive_2:=fun l=>∀ x∈l,p x) (fun k m s v t ks ih=>h (.mk k m s v t ks) ih) (fun x hx=>by cases hx) (fun x r h1 h2 y hy=>?_) n
 rcases List.mem_cons.1 hy with rfl | hy
 ·exact h1
 ·exact h2 y hy
theorem qcs (k:Nat):∀ n,(encT n).bd k = true:=Tm.ind fun n ih=>by
 rw [← qb6]
 simp only [AV.bd,AV.bds,qfl,qbn,Bool.true_and,Bool.and_true]
 rw [qcm,qcn,List.all_map,List.all_eq_true]
 exact ih
theorem qm3 (k:Nat) (l:List Tm):AV.bds k (qcg l) = true:=by
 rw [qcm,qcn,List.all_map,List.all_eq_true];exact fun x _=>qcs k x
theorem qmo (σ:Nat->Nat) (n:Tm):(encT n).ren σ = encT n:=ren_same (m:=0) (fun i hi=>by omega) _ (qcs 0 n)
theorem qwq (σ:Nat->Nat) (l:List Tm):AV.rens σ (qcg l) = qcg l:=ql (m:=0) (fun i hi=>by omega) _ (qm3 0 l)
theorem qbi3 (H:List Ent) (n:Tm):co H (.agg [.id,.id,.id,.sl 1,.sl 3,.sl 6]) (encT n) = encT n:=by
 rw [← qb6];simp only [qkn,qet,qge,qpr,qeg]
theorem qwr (n:Tm):rdCo (.agg [.id,.id,.id,.sl 1,.sl 3,.sl 6]) (encT n) = []:=by
 rw [← qb6];simp only [qeq,qct,qds,qgb,qcu,List.append_nil]
theorem q56 (n:Tm):(encT n).isAgg = true:=by cases n;rfl
theorem qn2 (n:Tm):(encT n).leaf = false:=by cases n;rfl
theorem qjn (l:List Tm):(qcg l).length = l.length:=by rw [qcm];simp
def T0:Tm:=.mk 0 0 [] [] [] []
theorem qc3 {l:List Tm} {i:Nat} (h:i < l.length):(qcg l).getD i .junk = encT (l.getD i T0):=by
 rw [qcm,List.getD_eq_getElem?_getD,List.getElem?_map,List.getElem?_eq_getElem h,List.getD_eq_getElem?_getD,List.getElem?_eq_getElem h];rfl
theorem qdu {l:List Tm} {i:Nat} (h:i < l.length):l.getD i T0∈l:=by
 rw [List.getD_eq_getElem?_getD,List.getElem?_eq_getElem h];exact List.getElem_mem h
theorem qxt {l:List Tm} {i:Nat} (h:i < l.length):l.drop i = l.getD i T0 :: l.drop (i + 1):=by
 rw [List.drop_eq_getElem_cons h,List.getD_eq_getElem?_getD,List.getElem?_eq_getElem h];rfl
theorem q5r (b:Bool) (n off:Nat) (x:Tm):fldv b n off (encT x) = ldc b n off (tmc x):=by rw [← qb6];rfl
theorem qg7:AV.agg [.int .i64 0,.int .i64 0,.str [],.sl 1 [],.sl 3 [],.sl 6 []] = encT T0:=by simp only [T0,encT,ints,List.map_nil,qj,qcg]
attribute [go_sem] tmc q5r qwr qcs qm3 qmo qwq qbi3 q56 qu1 qb6 qn2 qjn
structure Wt where
 p:Pd
 pos:Int
 hole:Int
def qdp (x:Wt):AV:=.agg [.str x.p.cls,.str x.p.ty.con,.int .i64 x.p.ty.var,.sl 3 (qj x.p.ty.args),.int .i64 x.pos,.int .i64 x.hole]
def qx (l:List Wt):List AV:=l.map qdp
def Wt0:Wt:=⟨P0,0,0⟩
abbrev wtc (x:Wt):List AV:=[.str x.p.cls,.str x.p.ty.con,.int .i64 x.p.ty.var,.sl 3 (qj x.p.ty.args),.int .i64 x.pos,.int .i64 x.hole]
theorem qwj (x:Wt):AV.agg [.str x.p.cls,.str x.p.ty.con,.int .i64 x.p.ty.var,.sl 3 (qj x.p.ty.args),.int .i64 x.pos,.int .i64 x.hole] = qdp x:=rfl
theorem qrz (x:Wt):(qdp x).cells = wtc x:=rfl
theorem qmy (k:Nat) (x:Wt):(qdp x).bd k = true:=by simp only [qdp,AV.bd,AV.bds,qbn,Bool.and_true]
theorem qb7 (k:Nat) (l:List Wt):AV.bds k (qx l) = true:=by rw [qx,qcn,List.all_map,List.all_eq_true];exact fun x _=>qmy k x
theorem qy5 (σ:Nat->Nat) (x:Wt):(qdp x).ren σ = qdp x:=ren_same (m:=0) (fun i hi=>by omega) _ (qmy 0 x)
theorem qcb (σ:Nat->Nat) (l:List Wt):AV.rens σ (qx l) = qx l:=ql (m:=0) (fun i hi=>by omega) _ (qb7 0 l)
theorem q3v (H:List Ent) (x:Wt):co H (.agg [.id,.id,.id,.sl 3,.id,.id]) (qdp x) = qdp x:=by
 simp only [qdp,qkn,qet,qge,qpr,qeg]
theorem qum (x:Wt):rdCo (.agg [.id,.id,.id,.sl 3,.id,.id]) (qdp x) = []:=by
 simp only [qdp,qeq,qct,qds,qgb,qcu,List.append_nil]
theorem qyl (x:Wt):(qdp x).isAgg = true:=rfl
theorem qmh (x:Wt):(qdp x).leaf = false:=rfl
theorem qfw (l:List Wt):(qx l).length = l.length:=by simp [qx]
theorem quk {l:List Wt} {i:Nat} (h:i < l.length):(qx l).getD i .junk = qdp (l.getD i Wt0):=by
 rw [qx,List.getD_eq_getElem?_getD,List.getElem?_map,List.getElem?_eq_getElem h,List.getD_eq_getElem?_getD,List.getElem?_eq_getElem h];rfl
theorem qjz (l:List Wt) (p:Wt):qx l ++ [qdp p] = qx (l ++ [p]):=by simp [qx]
theorem qv2:qx [] = []:=rfl
theorem qqs (n:Nat) (l:List Wt):(qx l).take n = qx (l.take n):=by simp [qx]
theorem qju (n:Nat) (l:List Wt):(qx l).drop n = qx (l.drop n):=by simp [qx]
theorem qy2 (b:Bool) (n off:Nat) (p:Wt):fldv b n off (qdp p) = ldc b n off (wtc p):=rfl
attribute [go_sem] wtc qy2 qum qmy qb7 qy5 qcb q3v qyl qrz qwj qmh qfw qqs qju
end Go.Proofs.YtkenggenkmfopaaGreat
