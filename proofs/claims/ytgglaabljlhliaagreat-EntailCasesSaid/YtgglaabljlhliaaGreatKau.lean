/- A text of this proof. -/
import Derived.Test.YtgglaabljlhliaaGreatKas
import Derived.Test.YtgglaabljlhliaaGreatKat
set_option linter.unusedVariables false
set_option linter.unusedSimpArgs false

/- terms: heads, sameness, the walk over a term -/
set_option maxRecDepth 4000
namespace Go.Proofs.YtgglaabljlhliaaGreat
open Go Go.RowKit Go.V

abbrev hdA (t:Ty):AV:=.agg [.str t.con,.int .i64 t.var,.int .i64 t.args.length]
theorem qcs {t:Ty} (hw:(encY t).wf):t.args.length≤maxLen:=((q4n t).1 hw).1
attribute [go_sem] hdA
theorem qh0 (t:Ty):qg Tryz.prog 70 [encY t] (hdA t):=by
 refine qd c0bv (by simp) (by simp only [go_sem]) rfl fun hw=>?_
 have hk:=qcs hw.1
 repeat' (first | refine vs_ ?_ | ((first | refine vr_ ?_ | (refine cs_ ?_ ?_<;>intro hc) | refine cj_ ?_ | fail)<;>(try refine ev_ ?_)) | with_reducible exact ti_)
 all_goals (try rfl)
def hdEq (a b:Ty):Bool:=decide (a.con = b.con) && (decide (a.var = b.var) && decide ((a.args.length:Int) = b.args.length))
theorem qvq {a b:Ty} (h:hdEq a b = true):a.con = b.con∧a.var = b.var∧a.args.length = b.args.length:=by
 simp only [hdEq,Bool.and_eq_true,decide_eq_true_eq] at h
 exact ⟨h.1,h.2.1,by omega⟩
theorem qbqo {a b:Ty} (h:hdEq a b = false):qgj a b = false:=by
 cases hs:qgj a b with
 | false=>rfl
 | true =>
   have:=(qj2 a b).1 hs
   subst this
   simp [hdEq] at h
theorem q9q {a b:Ty} {i:Nat} (h:hdEq a b = true) (ha:qbw (a.args.drop i) (b.args.drop i) = qbw a.args b.args):qgj a b = qbw (a.args.drop i) (b.args.drop i):=by
 obtain ⟨h1,h2,h3⟩:=qvq h
 rw [ha,qgh];simp [h1,h2]
theorem qyi:∀ a b,qg Tryz.prog 42 [encY a,encY b] (.bool (qgj a b)):=by
 refine Ty.ind fun a ih b=>?_
 refine qd c0bw (by simp) (by simp only [go_sem]) rfl fun hw=>?_
 have hkl:=qcs hw.1
 have hkr:=qcs hw.2.1
 repeat' (first | refine vs_ ?_ | ((first | refine vr_ ?_ | refine qa (qh0 _) fun _=>?_ | refine qc (qh0 _) ?_ | (refine cs_ ?_ ?_<;>intro hc) | refine cj_ ?_ | simp (disch:=omega) only [encs_getN,qb])<;>(try refine ev_ ?_)) | with_reducible exact ti_)
 ·rw [qbqo (by simpa [hdEq] using hc)]
 have hq:hdEq a b = true:=by simpa [hdEq] using hc
 clear hc
 refine qi (S:=Nat) (fun i=>i≤a.args.length∧qbw (a.args.drop i) (b.args.drop i) = qbw a.args b.args) (fun i=>(⟨[(2,.ptr 0 0),(3,.ptr 1 0),(13,.int .i64 a.args.length),(14,.int .i64 i)],[]⟩,[.blk (yc a),.blk (yc b)])) (fun i=>a.args.length - i) ?_ fun i hi=>?_
 ·refine qf 0 [0,1] ⟨Nat.zero_le _,rfl⟩ rfl (by simp) ?_ ?_ ?_<;>(try refine ev_ ?_)<;>(try with_reducible exact ti_)<;>(try simp (disch:=omega) only [qb,and_true,true_and])
 ·obtain ⟨hi,ha⟩:=hi
  have hf:=q9q hq ha
  obtain ⟨q1,q2,q3⟩:=qvq hq
  repeat' (first | refine vs_ ?_ | ((first | refine vr_ ?_ | fail)<;>(try simp (disch:=first | omega | (simp only [List.length_set,List.length_append,List.length_cons,List.length_nil];done) | (simp only [List.length_set,List.length_append,List.length_cons,List.length_nil];omega)) only [qw,qb,go_sem,↓reduceIte])) | ((first | (refine cs_ ?_ ?_<;>intro hc) | refine cj_ ?_ | simp (disch:=omega) only [encs_getN,qb] | refine qa (ih _ (qbi (by omega)) _) fun _=>?_ | refine qc (ih _ (qbi (by omega)) _) ?_)<;>(try refine ev_ ?_)) | with_reducible exact ti_)
  ·rw [hf,qev (by omega) (by omega),hc];rfl
  ·refine qf (i + 1) [0,1] ⟨⟨by omega,?_⟩,by omega⟩ rfl (by simp) ?_ ?_ ?_<;>(try refine ev_ ?_)<;>(try with_reducible exact ti_)<;>(try simp (disch:=omega) only [qb,and_true,true_and])
   rw [← ha,qev (l:=a.args) (l':=b.args) (i:=i) (by omega) (by omega),hc,Bool.true_and]
  ·rw [hf,qmd (by omega) (by omega)]
theorem q75 {a b:Ty} {i:Nat} (h1:a.con = b.con) (h2:a.var = b.var) (ha:qbw (a.args.drop i) (b.args.drop i) = qbw a.args b.args):qgj a b = qbw (a.args.drop i) (b.args.drop i):=by
 rw [ha,qgh];simp [h1,h2]
theorem qxf:∀ a b,qg Tryz.prog 61 [encY a,encY b] (.bool (qgj a b)):=by
 refine Ty.ind fun a ih b=>?_
 refine qd c0bx (by simp) (by simp only [go_sem]) rfl fun hw=>?_
 have hkl:=qcs hw.1
 have hkr:=qcs hw.2.1
 repeat' (first | refine vs_ ?_ | ((first | refine vr_ ?_ | (refine cs_ ?_ ?_<;>intro hc) | refine cj_ ?_ | simp (disch:=omega) only [encs_getN,qb])<;>(try refine ev_ ?_)) | with_reducible exact ti_)
 ·rw [qgh];simp [*]
 ·rw [qgh];simp [*]
 ·rw [qgh,qnb (by omega)];simp
 rename_i h1 h2
 refine qi (S:=Nat) (fun i=>i≤a.args.length∧qbw (a.args.drop i) (b.args.drop i) = qbw a.args b.args) (fun i=>(⟨[(2,.ptr 0 0),(3,.ptr 1 0),(5,.int .i64 i)],[]⟩,[.blk (yc a),.blk (yc b)])) (fun i=>a.args.length - i) ?_ fun i hi=>?_
 ·refine qf 0 [0,1] ⟨Nat.zero_le _,rfl⟩ rfl (by simp) ?_ ?_ ?_<;>(try refine ev_ ?_)<;>(try with_reducible exact ti_)<;>(try simp (disch:=omega) only [qb,and_true,true_and])
 ·obtain ⟨hi,ha⟩:=hi
  have hf:=q75 h1 h2 ha
  repeat' (first | refine vs_ ?_ | ((first | refine vr_ ?_ | fail)<;>(try simp (disch:=first | omega | (simp only [List.length_set,List.length_append,List.length_cons,List.length_nil];done) | (simp only [List.length_set,List.length_append,List.length_cons,List.length_nil];omega)) only [qw,qb,go_sem,↓reduceIte])) | ((first | (refine cs_ ?_ ?_<;>intro hc) | refine cj_ ?_ | simp (disch:=omega) only [encs_getN,qb] | refine qa (ih _ (qbi (by omega)) _) fun _=>?_ | refine qc (ih _ (qbi (by omega)) _) ?_)<;>(try refine ev_ ?_)) | with_reducible exact ti_)
  ·rw [hf,qev (by omega) (by omega),hc];rfl
  ·refine qf (i + 1) [0,1] ⟨⟨by omega,?_⟩,by omega⟩ rfl (by simp) ?_ ?_ ?_<;>(try refine ev_ ?_)<;>(try with_reducible exact ti_)<;>(try simp (disch:=omega) only [qb,and_true,true_and])
   rw [← ha,qev (l:=a.args) (l':=b.args) (i:=i) (by omega) (by omega),hc,Bool.true_and]
  ·rw [hf,qmd (by omega) (by omega)]
/-! heads -/
attribute [go_sem] q5p
def fixW (s:List UInt8):Bool:=pfx [33] s && (decide ((qe6 (s.drop 1)).2 = 0) && decide (digI (qe6 (s.drop 1)).1 = s.drop 1))
theorem q37 {c:UInt8} {s:List UInt8} (h:pfx [c] s = true):1≤s.length:=by
 cases s with
 | nil=>simp [pfx] at h
 | cons d r=>simp
theorem qtl (s:List UInt8):qg Tryz.prog 127 [.str s] (.bool (fixW s)):=by
 refine qd c0by (by simp) (by simp only [go_sem]) rfl fun hw=>?_
 cases hp:pfx [33] s with
 | false =>
   repeat' (first | refine vs_ ?_ | ((first | refine vr_ ?_ | fail)<;>(try simp only [hp,go_sem,↓reduceIte])) | ((first | (refine cs_ ?_ ?_<;>intro hc) | refine cj_ ?_ | fail | refine qa (qk _ _) fun _=>?_ | refine qc (qk _ _) ?_)<;>(try refine ev_ ?_)) | with_reducible exact ti_)
   simp [fixW,hp]
 | true =>
   have hl:=q37 hp
   repeat' (first | refine vs_ ?_ | ((first | refine vr_ ?_ | fail)<;>(try simp only [hp,go_sem,↓reduceIte])) | ((first | (refine cs_ ?_ ?_<;>intro hc) | refine cj_ ?_ | fail | refine qa (qk _ _) fun _=>?_ | refine qa (qhq _) fun _=>?_ | refine qa (qc7 _) fun _=>?_ | refine qc (qk _ _) ?_ | refine qc (qhq _) ?_ | refine qc (qc7 _) ?_)<;>(try refine ev_ ?_)) | with_reducible exact ti_)
   all_goals simp_all [fixW]
theorem qti (s:List UInt8):qg Tryz.prog 54 [.str s] (.bool (fixW s)):=by
 refine qd c0bz (by simp) (by simp only [go_sem]) rfl fun hw=>?_
 cases s with
 | nil =>
   repeat' (first | refine vs_ ?_ | ((first | refine vr_ ?_ | (refine cs_ ?_ ?_<;>intro hc) | refine cj_ ?_ | simp (disch:=omega) only [encs_getN,qb])<;>(try refine ev_ ?_)) | with_reducible exact ti_)
   all_goals first | (exact absurd rfl (by assumption)) | (simp [fixW,pfx])
 | cons c r =>
   have hp:pfx [33] (c :: r) = decide ((c.toNat:Int) = 33):=by
    have:(c = 33) = ((c.toNat:Int) = 33):=by
     have h3:c = 33 ↔ c.toNat = (33:UInt8).toNat:=UInt8.toNat_inj.symm
     have h4:(33:UInt8).toNat = 33:=rfl
     rw [h4] at h3
     exact propext (h3.trans (by omega))
    simp [pfx,this]
   repeat' (first | refine vs_ ?_ | ((first | refine vr_ ?_ | refine qa (qmc _) fun _=>?_ | refine qa (ql6 _) fun _=>?_ | refine qc (qmc _) ?_ | refine qc (ql6 _) ?_ | (refine cs_ ?_ ?_<;>intro hc) | refine cj_ ?_ | simp (disch:=omega) only [encs_getN,qb])<;>(try refine ev_ ?_)) | with_reducible exact ti_)
   all_goals simp_all [fixW]
def mayW (c:List UInt8) (v n:Int):Bool :=
 if c = [] then decide (n = 0) else if c = arrW then decide (v = 0) && decide (n = 2) else if fixW c = true then decide (v = 0) && decide (n = 0) else decide (v = 0) && conW c
theorem q7p (c:List UInt8) (v n:Int):qg Tryz.prog 99 [.agg [.str c,.int .i64 v,.int .i64 n]] (.bool (mayW c v n)):=by
 refine qd c0ca (by simp) (by simp only [go_sem]) rfl fun hw=>?_
 repeat' (first | refine vs_ ?_ | ((first | refine vr_ ?_ | refine qa (qtl _) fun _=>?_ | refine qa (qh1 _) fun _=>?_ | (refine cs_ ?_ ?_<;>intro hc) | refine cj_ ?_ | fail)<;>(try refine ev_ ?_)) | with_reducible exact ti_)
 all_goals simp_all [mayW,arrW]
abbrev mayY (t:Ty):Bool:=mayW t.con t.var t.args.length

/-! the walk -/
section
variable {S:Type}
mutual
def qcx (step:S->Ty->Int->S×Bool):Ty->S->Int->S×Bool
 | .mk c v l,s,k=>if (step s (.mk c v l) k).2 = true then qca step l (step s (.mk c v l) k).1 (IntKind.i64.wrap (k + 1)) else ((step s (.mk c v l) k).1,false)
def qca (step:S->Ty->Int->S×Bool):List Ty->S->Int->S×Bool
 | [],s,_=>(s,true)
 | x :: r,s,k=>if (qcx step x s k).2 = true then qca step r (qcx step x s k).1 k else ((qcx step x s k).1,false)
end
theorem qu1 (step:S->Ty->Int->S×Bool) (t:Ty) (s:S) (k:Int):qcx step t s k = if (step s t k).2 = true then qca step t.args (step s t k).1 (IntKind.i64.wrap (k + 1)) else ((step s t k).1,false):=by
 cases t;rw [qcx];rfl
theorem qk7 (step:S->Ty->Int->S×Bool) {l:List Ty} {i:Nat} (h:i < l.length) (s:S) (k:Int) :
 qca step (l.drop i) s k = if (qcx step (l.getD i Y0) s k).2 = true then qca step (l.drop (i + 1)) (qcx step (l.getD i Y0) s k).1 k else ((qcx step (l.getD i Y0) s k).1,false):=by
 rw [qnr h,qca]
theorem qw4 (step:S->Ty->Int->S×Bool) {l:List Ty} {i:Nat} (h:l.length≤i) (s:S) (k:Int):qca step (l.drop i) s k = (s,true):=by
 rw [List.drop_of_length_le h,qca]
end
section
variable {S:Type} {step:S->Ty->Int->S×Bool} {ok:Nat->S->Prop}
theorem qz1 (h2:∀ n s,ok (n + 1) s->ok n s):∀ (d n:Nat) (s:S),ok (n + d) s->ok n s
 | 0,n,s,h=>h
 | d + 1,n,s,h=>qz1 h2 d n s (h2 _ _ h)
mutual
theorem q3e (h1:∀ n s t k,ok (n + 1) s->ok n (step s t k).1) (h2:∀ n s,ok (n + 1) s->ok n s):∀ (t:Ty) (s:S) (k:Int) (m:Nat),ok (szY t + m) s->ok m (qcx step t s k).1
 | .mk c v l, s, k, m, h => by
   rw [szY,show 1 + szYs l + m = szYs l + m + 1 by omega] at h
   have h3:=h1 _ s (.mk c v l) k h
   rw [qcx]
   split
   ·exact qu2 h1 h2 l _ _ m h3
   ·exact qz1 h2 (szYs l) m _ (by rw [Nat.add_comm];exact h3)
theorem qu2 (h1:∀ n s t k,ok (n + 1) s->ok n (step s t k).1) (h2:∀ n s,ok (n + 1) s->ok n s):∀ (l:List Ty) (s:S) (k:Int) (m:Nat),ok (szYs l + m) s->ok m (qca step l s k).1
 | [],s,k,m,h=>by rw [qca];rw [szYs,Nat.zero_add] at h;exact h
 | x :: r, s, k, m, h => by
   rw [szYs,Nat.add_assoc] at h
   have h3:=q3e h1 h2 x s k _ h
   rw [qca]
   split
   ·exact qu2 h1 h2 r _ _ m h3
   ·exact qz1 h2 (szYs r) m _ (by rw [Nat.add_comm];exact h3)
end
end
section
variable {S:Type}
variable {f:FuncId} {st:S->Ent} {step:S->Ty->Int->S×Bool} {ok:Nat->S->Prop} (hb:∀ s,(st s).bd 0 = true) (h1:∀ n s t k,ok (n + 1) s->ok n (step s t k).1) (h2:∀ n s,ok (n + 1) s->ok n s)
 (hs:∀ s t k,ok 1 s->VM Tryz.prog f (st s) (st (step s t k).1) [encY t,.int .i64 k,.ptr 0 0] (.bool (step s t k).2))
include hb h1 h2 hs
theorem qx3:∀ t s k,ok (szY t) s->VM Tryz.prog 97 (st s) (st (qcx step t s k).1) [encY t,.int .i64 k,.fn f [] [.ptr 0 0]] (.bool (qcx step t s k).2):=by
 refine Ty.ind fun t ih s k hok=>?_
 have hb1:∀ s k,(st s).bd k = true:=fun s k=>Ent.bd_le (Nat.zero_le _) _ (hb s)
 have hbr:∀ s σ,(st s).ren σ = st s:=fun s σ=>Ent.ren_bd0 (hb s)
 refine qho (by kernel_rfl) fun hw=>?_
 have hk:=qcs hw.1
 have hok1:ok 1 s:=qz1 h2 (szYs t.args) 1 s (by rw [← qfh];exact hok)
 have hok2:ok (szYs t.args) (step s t k).1:=h1 _ _ _ _ (by rw [Nat.add_comm,← qfh];exact hok)
 refine qt c0cb 1 (by simp) (by simp) ?_
 repeat' (first | refine vs_ ?_ | ((first | refine vr_ ?_ | fail)<;>(try simp only [hb1,hbr,go_sem,↓reduceIte])) | ((first | (refine cs_ ?_ ?_<;>intro hc) | refine cj_ ?_ | simp (disch:=omega) only [encs_getN,qb] | refine qce 0 (hs _ _ _ hok1) ?_ (hb _) (hb _))<;>(try refine ev_ ?_)) | with_reducible exact ti_)
 ·rw [qu1,if_neg (by rw [hc];simp)];exact ⟨hb1 _ _,rfl,rfl⟩
 have hw0:=qu1 step t s k
 rw [if_pos hc] at hw0
 generalize qcx step t s k = tg at hw0 ⊢
 generalize hk1:IntKind.i64.wrap (k + 1) = k1 at hw0
 refine qi (S:=Nat×S) (fun x=>x.1≤t.args.length∧qca step (t.args.drop x.1) x.2 k1 = tg∧ok (szYs (t.args.drop x.1)) x.2) (fun x=>(⟨[(1,.int .i64 k),(2,.fn f [] [.ptr 0 0]),(15,.sl 3 (qq t.args)),(16,.int .i64 t.args.length),(17,.int .i64 x.1)],[]⟩,[st x.2])) (fun x=>t.args.length - x.1) ?_ fun x hx=>?_
 ·refine qbbu (0,(step s t k).1) [.blk (yc t)] ⟨Nat.zero_le _,hw0.symm,hok2⟩ (Nat.le_refl _) rfl (by simp only [List.all_cons,List.all_nil,hb1,Bool.and_true]) ?_ rfl rfl<;>(try refine ev_ ?_)<;>(try with_reducible exact ti_)<;>(try simp (disch:=omega) only [qb,and_true,true_and])
 ·obtain ⟨i,s1⟩:=x
  obtain ⟨hi,hx,hok3⟩:=hx
  dsimp only at hi hx hok3
  have hok4:i < t.args.length->ok (szY (t.args.getD i Y0) + szYs (t.args.drop (i + 1))) s1:=fun h=>by rw [qnr h,szYs] at hok3;exact hok3
  have hok5:i < t.args.length->ok (szY (t.args.getD i Y0)) s1:=fun h=>qz1 h2 _ _ _ (hok4 h)
  repeat' (first | refine vs_ ?_ | ((first | refine vr_ ?_ | fail)<;>(try simp (disch:=first | omega | (simp only [List.length_set,List.length_append,List.length_cons,List.length_nil];done) | (simp only [List.length_set,List.length_append,List.length_cons,List.length_nil];omega)) only [hb1,hbr,qw,qb,hk1,go_sem,↓reduceIte])) | ((first | (refine cs_ ?_ ?_<;>intro hc) | refine cj_ ?_ | simp (disch:=omega) only [encs_getN,qb] | refine qce 0 (ih (t.args.getD i Y0) (qbi (by omega)) s1 k1 (hok5 (by omega))) ?_ (hb _) (hb _))<;>(try refine ev_ ?_)) | with_reducible exact ti_)
  ·rw [qk7 step (by omega),if_neg (by rw [hc];simp)] at hx
   subst hx
   exact ⟨hb1 _ _,rfl,rfl⟩
  ·rw [qk7 step (by omega),if_pos (by rw [hc])] at hx
   refine qbbu (i + 1,(qcx step (t.args.getD i Y0) s1 k1).1) [.blk (yc (t.args.getD i Y0))] ⟨⟨by dsimp only;omega,hx,q3e h1 h2 _ _ _ _ (hok4 (by omega))⟩,by dsimp only;omega⟩ (Nat.le_refl _) rfl (by simp only [List.all_cons,List.all_nil,hb1,Bool.and_true]) ?_ rfl rfl<;>(try refine ev_ ?_)<;>(try with_reducible exact ti_)<;>(try simp (disch:=omega) only [qb,and_true,true_and])
  ·rw [qw4 step (by omega)] at hx
   subst hx
   exact ⟨hb1 _ _,rfl,rfl⟩
end
end Go.Proofs.YtgglaabljlhliaaGreat
