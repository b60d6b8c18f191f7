/- A text of this proof. -/
import Derived.Test.YtlahgbhhejkgbaaKam
import Derived.Test.YtlahgbhhejkgbaaKao
import Derived.Test.YtlahgbhhejkgbaaKap
set_option linter.unusedVariables false
set_option linter.unusedSimpArgs false

/- terms: heads, sameness, the walk over a term -/
set_option maxRecDepth 4000
namespace Go.Proofs.Ytlahgbhhejkgbaa
open Go Go.RowKit Go.V

abbrev hdA (t:Ty):AV:=.agg [.str t.con,.int .i64 t.var,.int .i64 t.args.length]
theorem qdc {t:Ty} (hw:(encY t).wf):t.args.length≤maxLen:=((qj2 t).1 hw).1
attribute [go_sem] hdA
theorem qfo (t:Ty):ql Try.prog 40 [encY t] (hdA t):=by
 refine qg c0j (by simp) (by simp only [go_sem]) rfl fun hw=>?_
 have hk:=qdc hw.1
 repeat' (first | refine vs_ ?_ | ((first | refine vr_ ?_ | (refine cs_ ?_ ?_<;>intro hc) | refine cj_ ?_ | fail)<;>(try refine ev_ ?_)) | with_reducible exact ti_)
 all_goals (try rfl)
def hdEq (a b:Ty):Bool:=decide (a.con = b.con) && (decide (a.var = b.var) && decide ((a.args.length:Int) = b.args.length))
theorem qo2 {a b:Ty} (h:hdEq a b = true):a.con = b.con∧a.var = b.var∧a.args.length = b.args.length:=by
 simp only [hdEq,Bool.and_eq_true,decide_eq_true_eq] at h
 exact ⟨h.1,h.2.1,by omega⟩
theorem q4i {a b:Ty} (h:hdEq a b = false):qfq a b = false:=by
 cases hs:qfq a b with
 | false=>rfl
 | true =>
   have:=(qj6 a b).1 hs
   subst this
   simp [hdEq] at h
theorem qxw {a b:Ty} {i:Nat} (h:hdEq a b = true) (ha:qz (a.args.drop i) (b.args.drop i) = qz a.args b.args):qfq a b = qz (a.args.drop i) (b.args.drop i):=by
 obtain ⟨h1,h2,h3⟩:=qo2 h
 rw [ha,qex];simp [h1,h2]
theorem qpm:∀ a b,ql Try.prog 22 [encY a,encY b] (.bool (qfq a b)):=by
 refine Ty.ind fun a ih b=>?_
 refine qg c0k (by simp) (by simp only [go_sem]) rfl fun hw=>?_
 have hkl:=qdc hw.1
 have hkr:=qdc hw.2.1
 repeat' (first | refine vs_ ?_ | ((first | refine vr_ ?_ | refine qa (qfo _) fun _=>?_ | refine qc (qfo _) ?_ | (refine cs_ ?_ ?_<;>intro hc) | refine cj_ ?_ | simp (disch:=omega) only [encs_getN,qd])<;>(try refine ev_ ?_)) | with_reducible exact ti_)
 ·rw [q4i (by simpa [hdEq] using hc)]
 have hq:hdEq a b = true:=by simpa [hdEq] using hc
 clear hc
 refine qbf (S:=Nat) (fun i=>i≤a.args.length∧qz (a.args.drop i) (b.args.drop i) = qz a.args b.args) (fun i=>(⟨[(2,.ptr 0 0),(3,.ptr 1 0),(13,.int .i64 a.args.length),(14,.int .i64 i)],[]⟩,[.blk (yc a),.blk (yc b)])) (fun i=>a.args.length - i) ?_ fun i hi=>?_
 ·refine qx 0 [0,1] ⟨Nat.zero_le _,rfl⟩ rfl (by simp) ?_ ?_ ?_<;>(try refine ev_ ?_)<;>(try with_reducible exact ti_)<;>(try simp (disch:=omega) only [qd,and_true,true_and])
 ·obtain ⟨hi,ha⟩:=hi
  have hf:=qxw hq ha
  obtain ⟨q1,q2,q3⟩:=qo2 hq
  repeat' (first | refine vs_ ?_ | ((first | refine vr_ ?_ | fail)<;>(try simp (disch:=first | omega | (simp only [List.length_set,List.length_append,List.length_cons,List.length_nil];done) | (simp only [List.length_set,List.length_append,List.length_cons,List.length_nil];omega)) only [qbc,qd,go_sem,↓reduceIte])) | ((first | (refine cs_ ?_ ?_<;>intro hc) | refine cj_ ?_ | simp (disch:=omega) only [encs_getN,qd] | refine qa (ih _ (qc4 (by omega)) _) fun _=>?_ | refine qc (ih _ (qc4 (by omega)) _) ?_)<;>(try refine ev_ ?_)) | with_reducible exact ti_)
  ·rw [hf,qd2 (by omega) (by omega),hc];rfl
  ·refine qx (i + 1) [0,1] ⟨⟨by omega,?_⟩,by omega⟩ rfl (by simp) ?_ ?_ ?_<;>(try refine ev_ ?_)<;>(try with_reducible exact ti_)<;>(try simp (disch:=omega) only [qd,and_true,true_and])
   rw [← ha,qd2 (l:=a.args) (l':=b.args) (i:=i) (by omega) (by omega),hc,Bool.true_and]
  ·rw [hf,qja (by omega) (by omega)]
theorem qva {a b:Ty} {i:Nat} (h1:a.con = b.con) (h2:a.var = b.var) (ha:qz (a.args.drop i) (b.args.drop i) = qz a.args b.args):qfq a b = qz (a.args.drop i) (b.args.drop i):=by
 rw [ha,qex];simp [h1,h2]
theorem qji:∀ a b,ql Try.prog 23 [encY a,encY b] (.bool (qfq a b)):=by
 refine Ty.ind fun a ih b=>?_
 refine qg c0l (by simp) (by simp only [go_sem]) rfl fun hw=>?_
 have hkl:=qdc hw.1
 have hkr:=qdc hw.2.1
 repeat' (first | refine vs_ ?_ | ((first | refine vr_ ?_ | (refine cs_ ?_ ?_<;>intro hc) | refine cj_ ?_ | simp (disch:=omega) only [encs_getN,qd])<;>(try refine ev_ ?_)) | with_reducible exact ti_)
 ·rw [qex];simp [*]
 ·rw [qex];simp [*]
 ·rw [qex,qi4 (by omega)];simp
 rename_i h1 h2
 refine qbf (S:=Nat) (fun i=>i≤a.args.length∧qz (a.args.drop i) (b.args.drop i) = qz a.args b.args) (fun i=>(⟨[(2,.ptr 0 0),(3,.ptr 1 0),(5,.int .i64 i)],[]⟩,[.blk (yc a),.blk (yc b)])) (fun i=>a.args.length - i) ?_ fun i hi=>?_
 ·refine qx 0 [0,1] ⟨Nat.zero_le _,rfl⟩ rfl (by simp) ?_ ?_ ?_<;>(try refine ev_ ?_)<;>(try with_reducible exact ti_)<;>(try simp (disch:=omega) only [qd,and_true,true_and])
 ·obtain ⟨hi,ha⟩:=hi
  have hf:=qva h1 h2 ha
  repeat' (first | refine vs_ ?_ | ((first | refine vr_ ?_ | fail)<;>(try simp (disch:=first | omega | (simp only [List.length_set,List.length_append,List.length_cons,List.length_nil];done) | (simp only [List.length_set,List.length_append,List.length_cons,List.length_nil];omega)) only [qbc,qd,go_sem,↓reduceIte])) | ((first | (refine cs_ ?_ ?_<;>intro hc) | refine cj_ ?_ | simp (disch:=omega) only [encs_getN,qd] | refine qa (ih _ (qc4 (by omega)) _) fun _=>?_ | refine qc (ih _ (qc4 (by omega)) _) ?_)<;>(try refine ev_ ?_)) | with_reducible exact ti_)
  ·rw [hf,qd2 (by omega) (by omega),hc];rfl
  ·refine qx (i + 1) [0,1] ⟨⟨by omega,?_⟩,by omega⟩ rfl (by simp) ?_ ?_ ?_<;>(try refine ev_ ?_)<;>(try with_reducible exact ti_)<;>(try simp (disch:=omega) only [qd,and_true,true_and])
   rw [← ha,qd2 (l:=a.args) (l':=b.args) (i:=i) (by omega) (by omega),hc,Bool.true_and]
  ·rw [hf,qja (by omega) (by omega)]
/-! heads -/
attribute [go_sem] qxm
def fixW (s:List UInt8):Bool:=pfx [33] s && (decide ((qdh (s.drop 1)).2 = 0) && decide (digI (qdh (s.drop 1)).1 = s.drop 1))
theorem qqz {c:UInt8} {s:List UInt8} (h:pfx [c] s = true):1≤s.length:=by
 cases s with
 | nil=>simp [pfx] at h
 | cons d r=>simp
theorem qno (s:List UInt8):ql Try.prog 65 [.str s] (.bool (fixW s)):=by
 refine qg c0m (by simp) (by simp only [go_sem]) rfl fun hw=>?_
 cases hp:pfx [33] s with
 | false =>
   repeat' (first | refine vs_ ?_ | ((first | refine vr_ ?_ | fail)<;>(try simp only [hp,go_sem,↓reduceIte])) | ((first | (refine cs_ ?_ ?_<;>intro hc) | refine cj_ ?_ | fail | refine qa (qh _ _) fun _=>?_ | refine qc (qh _ _) ?_)<;>(try refine ev_ ?_)) | with_reducible exact ti_)
   simp [fixW,hp]
 | true =>
   have hl:=qqz hp
   repeat' (first | refine vs_ ?_ | ((first | refine vr_ ?_ | fail)<;>(try simp only [hp,go_sem,↓reduceIte])) | ((first | (refine cs_ ?_ ?_<;>intro hc) | refine cj_ ?_ | fail | refine qa (qh _ _) fun _=>?_ | refine qa (qfj _) fun _=>?_ | refine qa (qff _) fun _=>?_ | refine qc (qh _ _) ?_ | refine qc (qfj _) ?_ | refine qc (qff _) ?_)<;>(try refine ev_ ?_)) | with_reducible exact ti_)
   all_goals simp_all [fixW]
def mayW (c:List UInt8) (v n:Int):Bool :=
 if c = [] then decide (n = 0) else if c = arrW then decide (v = 0) && decide (n = 2) else if fixW c = true then decide (v = 0) && decide (n = 0) else decide (v = 0) && conW c
theorem qxe (c:List UInt8) (v n:Int):ql Try.prog 41 [.agg [.str c,.int .i64 v,.int .i64 n]] (.bool (mayW c v n)):=by
 refine qg c0n (by simp) (by simp only [go_sem]) rfl fun hw=>?_
 repeat' (first | refine vs_ ?_ | ((first | refine vr_ ?_ | refine qa (qno _) fun _=>?_ | refine qa (qto _) fun _=>?_ | (refine cs_ ?_ ?_<;>intro hc) | refine cj_ ?_ | fail)<;>(try refine ev_ ?_)) | with_reducible exact ti_)
 all_goals simp_all [mayW,arrW]
abbrev mayY (t:Ty):Bool:=mayW t.con t.var t.args.length

/-! the walk -/
section
variable {S:Type}
mutual
def qbt (step:S->Ty->Int->S×Bool):Ty->S->Int->S×Bool
 | .mk c v l,s,k=>if (step s (.mk c v l) k).2 = true then q7 step l (step s (.mk c v l) k).1 (IntKind.i64.wrap (k + 1)) else ((step s (.mk c v l) k).1,false)
def q7 (step:S->Ty->Int->S×Bool):List Ty->S->Int->S×Bool
 | [],s,_=>(s,true)
 | x :: r,s,k=>if (qbt step x s k).2 = true then q7 step r (qbt step x s k).1 k else ((qbt step x s k).1,false)
end
theorem qo9 (step:S->Ty->Int->S×Bool) (t:Ty) (s:S) (k:Int):qbt step t s k = if (step s t k).2 = true then q7 step t.args (step s t k).1 (IntKind.i64.wrap (k + 1)) else ((step s t k).1,false):=by
 cases t;rw [qbt];rfl
theorem qh5 (step:S->Ty->Int->S×Bool) {l:List Ty} {i:Nat} (h:i < l.length) (s:S) (k:Int) :
 q7 step (l.drop i) s k = if (qbt step (l.getD i Y0) s k).2 = true then q7 step (l.drop (i + 1)) (qbt step (l.getD i Y0) s k).1 k else ((qbt step (l.getD i Y0) s k).1,false):=by
 rw [qnp h,q7]
theorem qqk (step:S->Ty->Int->S×Bool) {l:List Ty} {i:Nat} (h:l.length≤i) (s:S) (k:Int):q7 step (l.drop i) s k = (s,true):=by
 rw [List.drop_of_length_le h,q7]
end
section
variable {S:Type} {step:S->Ty->Int->S×Bool} {ok:Nat->S->Prop}
theorem qsf (h2:∀ n s,ok (n + 1) s->ok n s):∀ (d n:Nat) (s:S),ok (n + d) s->ok n s
 | 0,n,s,h=>h
 | d + 1,n,s,h=>qsf h2 d n s (h2 _ _ h)
mutual
theorem qsk (h1:∀ n s t k,ok (n + 1) s->ok n (step s t k).1) (h2:∀ n s,ok (n + 1) s->ok n s):∀ (t:Ty) (s:S) (k:Int) (m:Nat),ok (szY t + m) s->ok m (qbt step t s k).1
 | .mk c v l, s, k, m, h => by
   rw [szY,show 1 + szYs l + m = szYs l + m + 1 by omega] at h
   have h3:=h1 _ s (.mk c v l) k h
   rw [qbt]
   split
   ·exact qpd h1 h2 l _ _ m h3
   ·exact qsf h2 (szYs l) m _ (by rw [Nat.add_comm];exact h3)
theorem qpd (h1:∀ n s t k,ok (n + 1) s->ok n (step s t k).1) (h2:∀ n s,ok (n + 1) s->ok n s):∀ (l:List Ty) (s:S) (k:Int) (m:Nat),ok (szYs l + m) s->ok m (q7 step l s k).1
 | [],s,k,m,h=>by rw [q7];rw [szYs,Nat.zero_add] at h;exact h
 | x :: r, s, k, m, h => by
   rw [szYs,Nat.add_assoc] at h
   have h3:=qsk h1 h2 x s k _ h
   rw [q7]
   split
   ·exact qpd h1 h2 r _ _ m h3
   ·exact qsf h2 (szYs r) m _ (by rw [Nat.add_comm];exact h3)
end
end
section
variable {S:Type}
variable {f:FuncId} {st:S->Ent} {step:S->Ty->Int->S×Bool} {ok:Nat->S->Prop} (hb:∀ s,(st s).bd 0 = true) (h1:∀ n s t k,ok (n + 1) s->ok n (step s t k).1) (h2:∀ n s,ok (n + 1) s->ok n s)
 (hs:∀ s t k,ok 1 s->VM Try.prog f (st s) (st (step s t k).1) [encY t,.int .i64 k,.ptr 0 0] (.bool (step s t k).2))
include hb h1 h2 hs
theorem qf3:∀ t s k,ok (szY t) s->VM Try.prog 38 (st s) (st (qbt step t s k).1) [encY t,.int .i64 k,.fn f [] [.ptr 0 0]] (.bool (qbt step t s k).2):=by
 refine Ty.ind fun t ih s k hok=>?_
 have hb1:∀ s k,(st s).bd k = true:=fun s k=>Ent.bd_le (Nat.zero_le _) _ (hb s)
 have hbr:∀ s σ,(st s).ren σ = st s:=fun s σ=>Ent.ren_bd0 (hb s)
 refine qg1 (by kernel_rfl) fun hw=>?_
 have hk:=qdc hw.1
 have hok1:ok 1 s:=qsf h2 (szYs t.args) 1 s (by rw [← qyg];exact hok)
 have hok2:ok (szYs t.args) (step s t k).1:=h1 _ _ _ _ (by rw [Nat.add_comm,← qyg];exact hok)
 refine qbj c0o 1 (by simp) (by simp) ?_
 repeat' (first | refine vs_ ?_ | ((first | refine vr_ ?_ | fail)<;>(try simp only [hb1,hbr,go_sem,↓reduceIte])) | ((first | (refine cs_ ?_ ?_<;>intro hc) | refine cj_ ?_ | simp (disch:=omega) only [encs_getN,qd] | refine qbr 0 (hs _ _ _ hok1) ?_ (hb _) (hb _))<;>(try refine ev_ ?_)) | with_reducible exact ti_)
 ·rw [qo9,if_neg (by rw [hc];simp)];exact ⟨hb1 _ _,rfl,rfl⟩
 have hw0:=qo9 step t s k
 rw [if_pos hc] at hw0
 generalize qbt step t s k = tg at hw0 ⊢
 generalize hk1:IntKind.i64.wrap (k + 1) = k1 at hw0
 refine qbf (S:=Nat×S) (fun x=>x.1≤t.args.length∧q7 step (t.args.drop x.1) x.2 k1 = tg∧ok (szYs (t.args.drop x.1)) x.2) (fun x=>(⟨[(1,.int .i64 k),(2,.fn f [] [.ptr 0 0]),(15,.sl 3 (qk t.args)),(16,.int .i64 t.args.length),(17,.int .i64 x.1)],[]⟩,[st x.2])) (fun x=>t.args.length - x.1) ?_ fun x hx=>?_
 ·refine qox (0,(step s t k).1) [.blk (yc t)] ⟨Nat.zero_le _,hw0.symm,hok2⟩ (Nat.le_refl _) rfl (by simp only [List.all_cons,List.all_nil,hb1,Bool.and_true]) ?_ rfl rfl<;>(try refine ev_ ?_)<;>(try with_reducible exact ti_)<;>(try simp (disch:=omega) only [qd,and_true,true_and])
 ·obtain ⟨i,s1⟩:=x
  obtain ⟨hi,hx,hok3⟩:=hx
  dsimp only at hi hx hok3
  have hok4:i < t.args.length->ok (szY (t.args.getD i Y0) + szYs (t.args.drop (i + 1))) s1:=fun h=>by rw [qnp h,szYs] at hok3;exact hok3
  have hok5:i < t.args.length->ok (szY (t.args.getD i Y0)) s1:=fun h=>qsf h2 _ _ _ (hok4 h)
  repeat' (first | refine vs_ ?_ | ((first | refine vr_ ?_ | fail)<;>(try simp (disch:=first | omega | (simp only [List.length_set,List.length_append,List.length_cons,List.length_nil];done) | (simp only [List.length_set,List.length_append,List.length_cons,List.length_nil];omega)) only [hb1,hbr,qbc,qd,hk1,go_sem,↓reduceIte])) | ((first | (refine cs_ ?_ ?_<;>intro hc) | refine cj_ ?_ | simp (disch:=omega) only [encs_getN,qd] | refine qbr 0 (ih (t.args.getD i Y0) (qc4 (by omega)) s1 k1 (hok5 (by omega))) ?_ (hb _) (hb _))<;>(try refine ev_ ?_)) | with_reducible exact ti_)
  ·rw [qh5 step (by omega),if_neg (by rw [hc];simp)] at hx
   subst hx
   exact ⟨hb1 _ _,rfl,rfl⟩
  ·rw [qh5 step (by omega),if_pos (by rw [hc])] at hx
   refine qox (i + 1,(qbt step (t.args.getD i Y0) s1 k1).1) [.blk (yc (t.args.getD i Y0))] ⟨⟨by dsimp only;omega,hx,qsk h1 h2 _ _ _ _ (hok4 (by omega))⟩,by dsimp only;omega⟩ (Nat.le_refl _) rfl (by simp only [List.all_cons,List.all_nil,hb1,Bool.and_true]) ?_ rfl rfl<;>(try refine ev_ ?_)<;>(try with_reducible exact ti_)<;>(try simp (disch:=omega) only [qd,and_true,true_and])
  ·rw [qqk step (by omega)] at hx
   subst hx
   exact ⟨hb1 _ _,rfl,rfl⟩
end
end Go.Proofs.Ytlahgbhhejkgbaa
