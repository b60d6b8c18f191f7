/- A text of this proof. -/
import Derived.Test.YtlahgbhhejkgbaaTam
import Derived.Test.YtlahgbhhejkgbaaTao
import Derived.Test.YtlahgbhhejkgbaaTap
set_option linter.unusedVariables false
set_option linter.unusedSimpArgs false

/- terms: heads, sameness, the walk over a term -/
set_option maxRecDepth 4000
namespace Go.Proofs.Ytlahgbhhejkgbaa
open Go Go.RowKit Go.V

abbrev hdA (t:Ty):AV:=.agg [.str t.con,.int .i64 t.var,.int .i64 t.args.length]
theorem qb9 {t:Ty} (hw:(encY t).wf):t.args.length≤maxLen:=((qie t).1 hw).1
attribute [go_sem] hdA
theorem qfl (t:Ty):qg Try.prog 40 [encY t] (hdA t):=by
 refine qd c0k (by simp) (by simp only [go_sem]) rfl fun hw=>?_
 have hk:=qb9 hw.1
 repeat' (first | refine vs_ ?_ | ((first | refine vr_ ?_ | (refine cs_ ?_ ?_<;>intro hc) | refine cj_ ?_ | fail)<;>(try refine ev_ ?_)) | with_reducible exact ti_)
 all_goals (try rfl)
def hdEq (a b:Ty):Bool:=decide (a.con = b.con) && (decide (a.var = b.var) && decide ((a.args.length:Int) = b.args.length))
theorem qol {a b:Ty} (h:hdEq a b = true):a.con = b.con∧a.var = b.var∧a.args.length = b.args.length:=by
 simp only [hdEq,Bool.and_eq_true,decide_eq_true_eq] at h
 exact ⟨h.1,h.2.1,by omega⟩
theorem q14 {a b:Ty} (h:hdEq a b = false):qfv a b = false:=by
 cases hs:qfv a b with
 | false=>rfl
 | true =>
   have:=(qoo a b).1 hs
   subst this
   simp [hdEq] at h
theorem qzf {a b:Ty} {i:Nat} (h:hdEq a b = true) (ha:q8 (a.args.drop i) (b.args.drop i) = q8 a.args b.args):qfv a b = q8 (a.args.drop i) (b.args.drop i):=by
 obtain ⟨h1,h2,h3⟩:=qol h
 rw [ha,qez];simp [h1,h2]
theorem qqo:∀ a b,qg Try.prog 22 [encY a,encY b] (.bool (qfv a b)):=by
 refine Ty.ind fun a ih b=>?_
 refine qd c0l (by simp) (by simp only [go_sem]) rfl fun hw=>?_
 have hkl:=qb9 hw.1
 have hkr:=qb9 hw.2.1
 repeat' (first | refine vs_ ?_ | ((first | refine vr_ ?_ | refine qa (qfl _) fun _=>?_ | refine qf (qfl _) ?_ | (refine cs_ ?_ ?_<;>intro hc) | refine cj_ ?_ | simp (disch:=omega) only [encs_getN,qb])<;>(try refine ev_ ?_)) | with_reducible exact ti_)
 ·rw [q14 (by simpa [hdEq] using hc)]
 have hq:hdEq a b = true:=by simpa [hdEq] using hc
 clear hc
 refine qw (S:=Nat) (fun i=>i≤a.args.length∧q8 (a.args.drop i) (b.args.drop i) = q8 a.args b.args) (fun i=>(⟨[(2,.ptr 0 0),(3,.ptr 1 0),(13,.int .i64 a.args.length),(14,.int .i64 i)],[]⟩,[.blk (yc a),.blk (yc b)])) (fun i=>a.args.length - i) ?_ fun i hi=>?_
 ·refine qm 0 [0,1] ⟨Nat.zero_le _,rfl⟩ rfl (by simp) ?_ ?_ ?_<;>(try refine ev_ ?_)<;>(try with_reducible exact ti_)<;>(try simp (disch:=omega) only [qb,and_true,true_and])
 ·obtain ⟨hi,ha⟩:=hi
  have hf:=qzf hq ha
  obtain ⟨q1,q2,q3⟩:=qol hq
  repeat' (first | refine vs_ ?_ | ((first | refine vr_ ?_ | fail)<;>(try simp (disch:=first | omega | (simp only [List.length_set,List.length_append,List.length_cons,List.length_nil];done) | (simp only [List.length_set,List.length_append,List.length_cons,List.length_nil];omega)) only [qq,qb,go_sem,↓reduceIte])) | ((first | (refine cs_ ?_ ?_<;>intro hc) | refine cj_ ?_ | simp (disch:=omega) only [encs_getN,qb] | refine qa (ih _ (qbw (by omega)) _) fun _=>?_ | refine qf (ih _ (qbw (by omega)) _) ?_)<;>(try refine ev_ ?_)) | with_reducible exact ti_)
  ·rw [hf,qdv (by omega) (by omega),hc];rfl
  ·refine qm (i + 1) [0,1] ⟨⟨by omega,?_⟩,by omega⟩ rfl (by simp) ?_ ?_ ?_<;>(try refine ev_ ?_)<;>(try with_reducible exact ti_)<;>(try simp (disch:=omega) only [qb,and_true,true_and])
   rw [← ha,qdv (l:=a.args) (l':=b.args) (i:=i) (by omega) (by omega),hc,Bool.true_and]
  ·rw [hf,qj0 (by omega) (by omega)]
theorem qxs {a b:Ty} {i:Nat} (h1:a.con = b.con) (h2:a.var = b.var) (ha:q8 (a.args.drop i) (b.args.drop i) = q8 a.args b.args):qfv a b = q8 (a.args.drop i) (b.args.drop i):=by
 rw [ha,qez];simp [h1,h2]
theorem qqs:∀ a b,qg Try.prog 23 [encY a,encY b] (.bool (qfv a b)):=by
 refine Ty.ind fun a ih b=>?_
 refine qd c0m (by simp) (by simp only [go_sem]) rfl fun hw=>?_
 have hkl:=qb9 hw.1
 have hkr:=qb9 hw.2.1
 repeat' (first | refine vs_ ?_ | ((first | refine vr_ ?_ | (refine cs_ ?_ ?_<;>intro hc) | refine cj_ ?_ | simp (disch:=omega) only [encs_getN,qb])<;>(try refine ev_ ?_)) | with_reducible exact ti_)
 ·rw [qez];simp [*]
 ·rw [qez];simp [*]
 ·rw [qez,qi3 (by omega)];simp
 rename_i h1 h2
 refine qw (S:=Nat) (fun i=>i≤a.args.length∧q8 (a.args.drop i) (b.args.drop i) = q8 a.args b.args) (fun i=>(⟨[(2,.ptr 0 0),(3,.ptr 1 0),(5,.int .i64 i)],[]⟩,[.blk (yc a),.blk (yc b)])) (fun i=>a.args.length - i) ?_ fun i hi=>?_
 ·refine qm 0 [0,1] ⟨Nat.zero_le _,rfl⟩ rfl (by simp) ?_ ?_ ?_<;>(try refine ev_ ?_)<;>(try with_reducible exact ti_)<;>(try simp (disch:=omega) only [qb,and_true,true_and])
 ·obtain ⟨hi,ha⟩:=hi
  have hf:=qxs h1 h2 ha
  repeat' (first | refine vs_ ?_ | ((first | refine vr_ ?_ | fail)<;>(try simp (disch:=first | omega | (simp only [List.length_set,List.length_append,List.length_cons,List.length_nil];done) | (simp only [List.length_set,List.length_append,List.length_cons,List.length_nil];omega)) only [qq,qb,go_sem,↓reduceIte])) | ((first | (refine cs_ ?_ ?_<;>intro hc) | refine cj_ ?_ | simp (disch:=omega) only [encs_getN,qb] | refine qa (ih _ (qbw (by omega)) _) fun _=>?_ | refine qf (ih _ (qbw (by omega)) _) ?_)<;>(try refine ev_ ?_)) | with_reducible exact ti_)
  ·rw [hf,qdv (by omega) (by omega),hc];rfl
  ·refine qm (i + 1) [0,1] ⟨⟨by omega,?_⟩,by omega⟩ rfl (by simp) ?_ ?_ ?_<;>(try refine ev_ ?_)<;>(try with_reducible exact ti_)<;>(try simp (disch:=omega) only [qb,and_true,true_and])
   rw [← ha,qdv (l:=a.args) (l':=b.args) (i:=i) (by omega) (by omega),hc,Bool.true_and]
  ·rw [hf,qj0 (by omega) (by omega)]
/-! heads -/
attribute [go_sem] qzh
def fixW (s:List UInt8):Bool:=pfx [33] s && (decide ((qdb (s.drop 1)).2 = 0) && decide (digI (qdb (s.drop 1)).1 = s.drop 1))
theorem qrj {c:UInt8} {s:List UInt8} (h:pfx [c] s = true):1≤s.length:=by
 cases s with
 | nil=>simp [pfx] at h
 | cons d r=>simp
theorem qm1 (s:List UInt8):qg Try.prog 65 [.str s] (.bool (fixW s)):=by
 refine qd c0n (by simp) (by simp only [go_sem]) rfl fun hw=>?_
 cases hp:pfx [33] s with
 | false =>
   repeat' (first | refine vs_ ?_ | ((first | refine vr_ ?_ | fail)<;>(try simp only [hp,go_sem,↓reduceIte])) | ((first | (refine cs_ ?_ ?_<;>intro hc) | refine cj_ ?_ | fail | refine qa (qh _ _) fun _=>?_ | refine qf (qh _ _) ?_)<;>(try refine ev_ ?_)) | with_reducible exact ti_)
   simp [fixW,hp]
 | true =>
   have hl:=qrj hp
   repeat' (first | refine vs_ ?_ | ((first | refine vr_ ?_ | fail)<;>(try simp only [hp,go_sem,↓reduceIte])) | ((first | (refine cs_ ?_ ?_<;>intro hc) | refine cj_ ?_ | fail | refine qa (qh _ _) fun _=>?_ | refine qa (qfp _) fun _=>?_ | refine qa (qfb _) fun _=>?_ | refine qf (qh _ _) ?_ | refine qf (qfp _) ?_ | refine qf (qfb _) ?_)<;>(try refine ev_ ?_)) | with_reducible exact ti_)
   all_goals simp_all [fixW]
theorem qm0 (s:List UInt8):qg Try.prog 67 [.str s] (.bool (fixW s)):=by
 refine qd c0o (by simp) (by simp only [go_sem]) rfl fun hw=>?_
 cases s with
 | nil =>
   repeat' (first | refine vs_ ?_ | ((first | refine vr_ ?_ | (refine cs_ ?_ ?_<;>intro hc) | refine cj_ ?_ | simp (disch:=omega) only [encs_getN,qb])<;>(try refine ev_ ?_)) | with_reducible exact ti_)
   all_goals first | (exact absurd rfl (by assumption)) | (simp [fixW,pfx])
 | cons c r =>
   have hp:pfx [33] (c :: r) = decide ((c.toNat:Int) = 33):=by
    have:(c = 33) = ((c.toNat:Int) = 33):=by
     have h3:c = 33 ↔ c.toNat = (33:UInt8).toNat:=UInt8.toNat_inj.symm
     have h4:(33:UInt8).toNat = 33:=rfl
     rw [h4] at h3
     exact propext (h3.trans (by omega))
    simp [pfx,this]
   repeat' (first | refine vs_ ?_ | ((first | refine vr_ ?_ | refine qa (qdn _) fun _=>?_ | refine qa (qey _) fun _=>?_ | refine qf (qdn _) ?_ | refine qf (qey _) ?_ | (refine cs_ ?_ ?_<;>intro hc) | refine cj_ ?_ | simp (disch:=omega) only [encs_getN,qb])<;>(try refine ev_ ?_)) | with_reducible exact ti_)
   all_goals simp_all [fixW]
def mayW (c:List UInt8) (v n:Int):Bool :=
 if c = [] then decide (n = 0) else if c = arrW then decide (v = 0) && decide (n = 2) else if fixW c = true then decide (v = 0) && decide (n = 0) else decide (v = 0) && conW c
theorem qzb (c:List UInt8) (v n:Int):qg Try.prog 41 [.agg [.str c,.int .i64 v,.int .i64 n]] (.bool (mayW c v n)):=by
 refine qd c0p (by simp) (by simp only [go_sem]) rfl fun hw=>?_
 repeat' (first | refine vs_ ?_ | ((first | refine vr_ ?_ | refine qa (qm1 _) fun _=>?_ | refine qa (qsm _) fun _=>?_ | (refine cs_ ?_ ?_<;>intro hc) | refine cj_ ?_ | fail)<;>(try refine ev_ ?_)) | with_reducible exact ti_)
 all_goals simp_all [mayW,arrW]
abbrev mayY (t:Ty):Bool:=mayW t.con t.var t.args.length

/-! the walk -/
section
variable {S:Type}
mutual
def qbv (step:S->Ty->Int->S×Bool):Ty->S->Int->S×Bool
 | .mk c v l,s,k=>if (step s (.mk c v l) k).2 = true then q9 step l (step s (.mk c v l) k).1 (IntKind.i64.wrap (k + 1)) else ((step s (.mk c v l) k).1,false)
def q9 (step:S->Ty->Int->S×Bool):List Ty->S->Int->S×Bool
 | [],s,_=>(s,true)
 | x :: r,s,k=>if (qbv step x s k).2 = true then q9 step r (qbv step x s k).1 k else ((qbv step x s k).1,false)
end
theorem qop (step:S->Ty->Int->S×Bool) (t:Ty) (s:S) (k:Int):qbv step t s k = if (step s t k).2 = true then q9 step t.args (step s t k).1 (IntKind.i64.wrap (k + 1)) else ((step s t k).1,false):=by
 cases t;rw [qbv];rfl
theorem qho (step:S->Ty->Int->S×Bool) {l:List Ty} {i:Nat} (h:i < l.length) (s:S) (k:Int) :
 q9 step (l.drop i) s k = if (qbv step (l.getD i Y0) s k).2 = true then q9 step (l.drop (i + 1)) (qbv step (l.getD i Y0) s k).1 k else ((qbv step (l.getD i Y0) s k).1,false):=by
 rw [qiw h,q9]
theorem qp9 (step:S->Ty->Int->S×Bool) {l:List Ty} {i:Nat} (h:l.length≤i) (s:S) (k:Int):q9 step (l.drop i) s k = (s,true):=by
 rw [List.drop_of_length_le h,q9]
end
section
variable {S:Type} {step:S->Ty->Int->S×Bool} {ok:Nat->S->Prop}
theorem qu6 (h2:∀ n s,ok (n + 1) s->ok n s):∀ (d n:Nat) (s:S),ok (n + d) s->ok n s
 | 0,n,s,h=>h
 | d + 1,n,s,h=>qu6 h2 d n s (h2 _ _ h)
mutual
theorem qtl (h1:∀ n s t k,ok (n + 1) s->ok n (step s t k).1) (h2:∀ n s,ok (n + 1) s->ok n s):∀ (t:Ty) (s:S) (k:Int) (m:Nat),ok (szY t + m) s->ok m (qbv step t s k).1
 | .mk c v l, s, k, m, h => by
   rw [szY,show 1 + szYs l + m = szYs l + m + 1 by omega] at h
   have h3:=h1 _ s (.mk c v l) k h
   rw [qbv]
   split
   ·exact qpd h1 h2 l _ _ m h3
   ·exact qu6 h2 (szYs l) m _ (by rw [Nat.add_comm];exact h3)
theorem qpd (h1:∀ n s t k,ok (n + 1) s->ok n (step s t k).1) (h2:∀ n s,ok (n + 1) s->ok n s):∀ (l:List Ty) (s:S) (k:Int) (m:Nat),ok (szYs l + m) s->ok m (q9 step l s k).1
 | [],s,k,m,h=>by rw [q9];rw [szYs,Nat.zero_add] at h;exact h
 | x :: r, s, k, m, h => by
   rw [szYs,Nat.add_assoc] at h
   have h3:=qtl h1 h2 x s k _ h
   rw [q9]
   split
   ·exact qpd h1 h2 r _ _ m h3
   ·exact qu6 h2 (szYs r) m _ (by rw [Nat.add_comm];exact h3)
end
end
section
variable {S:Type}
variable {f:FuncId} {st:S->Ent} {step:S->Ty->Int->S×Bool} {ok:Nat->S->Prop} (hb:∀ s,(st s).bd 0 = true) (h1:∀ n s t k,ok (n + 1) s->ok n (step s t k).1) (h2:∀ n s,ok (n + 1) s->ok n s)
 (hs:∀ s t k,ok 1 s->VM Try.prog f (st s) (st (step s t k).1) [encY t,.int .i64 k,.ptr 0 0] (.bool (step s t k).2))
include hb h1 h2 hs
theorem qfy:∀ t s k,ok (szY t) s->VM Try.prog 38 (st s) (st (qbv step t s k).1) [encY t,.int .i64 k,.fn f [] [.ptr 0 0]] (.bool (qbv step t s k).2):=by
 refine Ty.ind fun t ih s k hok=>?_
 have hb1:∀ s k,(st s).bd k = true:=fun s k=>Ent.bd_le (Nat.zero_le _) _ (hb s)
 have hbr:∀ s σ,(st s).ren σ = st s:=fun s σ=>Ent.ren_bd0 (hb s)
 refine qhw (by kernel_rfl) fun hw=>?_
 have hk:=qb9 hw.1
 have hok1:ok 1 s:=qu6 h2 (szYs t.args) 1 s (by rw [← qzu];exact hok)
 have hok2:ok (szYs t.args) (step s t k).1:=h1 _ _ _ _ (by rw [Nat.add_comm,← qzu];exact hok)
 refine qbl c0q 1 (by simp) (by simp) ?_
 repeat' (first | refine vs_ ?_ | ((first | refine vr_ ?_ | fail)<;>(try simp only [hb1,hbr,go_sem,↓reduceIte])) | ((first | (refine cs_ ?_ ?_<;>intro hc) | refine cj_ ?_ | simp (disch:=omega) only [encs_getN,qb] | refine qbu 0 (hs _ _ _ hok1) ?_ (hb _) (hb _))<;>(try refine ev_ ?_)) | with_reducible exact ti_)
 ·rw [qop,if_neg (by rw [hc];simp)];exact ⟨hb1 _ _,rfl,rfl⟩
 have hw0:=qop step t s k
 rw [if_pos hc] at hw0
 generalize qbv step t s k = tg at hw0 ⊢
 generalize hk1:IntKind.i64.wrap (k + 1) = k1 at hw0
 refine qw (S:=Nat×S) (fun x=>x.1≤t.args.length∧q9 step (t.args.drop x.1) x.2 k1 = tg∧ok (szYs (t.args.drop x.1)) x.2) (fun x=>(⟨[(1,.int .i64 k),(2,.fn f [] [.ptr 0 0]),(15,.sl 3 (qk t.args)),(16,.int .i64 t.args.length),(17,.int .i64 x.1)],[]⟩,[st x.2])) (fun x=>t.args.length - x.1) ?_ fun x hx=>?_
 ·refine qov (0,(step s t k).1) [.blk (yc t)] ⟨Nat.zero_le _,hw0.symm,hok2⟩ (Nat.le_refl _) rfl (by simp only [List.all_cons,List.all_nil,hb1,Bool.and_true]) ?_ rfl rfl<;>(try refine ev_ ?_)<;>(try with_reducible exact ti_)<;>(try simp (disch:=omega) only [qb,and_true,true_and])
 ·obtain ⟨i,s1⟩:=x
  obtain ⟨hi,hx,hok3⟩:=hx
  dsimp only at hi hx hok3
  have hok4:i < t.args.length->ok (szY (t.args.getD i Y0) + szYs (t.args.drop (i + 1))) s1:=fun h=>by rw [qiw h,szYs] at hok3;exact hok3
  have hok5:i < t.args.length->ok (szY (t.args.getD i Y0)) s1:=fun h=>qu6 h2 _ _ _ (hok4 h)
  repeat' (first | refine vs_ ?_ | ((first | refine vr_ ?_ | fail)<;>(try simp (disch:=first | omega | (simp only [List.length_set,List.length_append,List.length_cons,List.length_nil];done) | (simp only [List.length_set,List.length_append,List.length_cons,List.length_nil];omega)) only [hb1,hbr,qq,qb,hk1,go_sem,↓reduceIte])) | ((first | (refine cs_ ?_ ?_<;>intro hc) | refine cj_ ?_ | simp (disch:=omega) only [encs_getN,qb] | refine qbu 0 (ih (t.args.getD i Y0) (qbw (by omega)) s1 k1 (hok5 (by omega))) ?_ (hb _) (hb _))<;>(try refine ev_ ?_)) | with_reducible exact ti_)
  ·rw [qho step (by omega),if_neg (by rw [hc];simp)] at hx
   subst hx
   exact ⟨hb1 _ _,rfl,rfl⟩
  ·rw [qho step (by omega),if_pos (by rw [hc])] at hx
   refine qov (i + 1,(qbv step (t.args.getD i Y0) s1 k1).1) [.blk (yc (t.args.getD i Y0))] ⟨⟨by dsimp only;omega,hx,qtl h1 h2 _ _ _ _ (hok4 (by omega))⟩,by dsimp only;omega⟩ (Nat.le_refl _) rfl (by simp only [List.all_cons,List.all_nil,hb1,Bool.and_true]) ?_ rfl rfl<;>(try refine ev_ ?_)<;>(try with_reducible exact ti_)<;>(try simp (disch:=omega) only [qb,and_true,true_and])
  ·rw [qp9 step (by omega)] at hx
   subst hx
   exact ⟨hb1 _ _,rfl,rfl⟩
end
end Go.Proofs.Ytlahgbhhejkgbaa
