/- A text of this proof. -/
import Derived.Test.YtgglaabljlhliaaGreatLas
import Derived.Test.YtgglaabljlhliaaGreatLat
import Derived.Test.YtgglaabljlhliaaGreatLau
set_option linter.unusedVariables false
set_option linter.unusedSimpArgs false

/- terms: heads, sameness, the walk over a term -/
set_option maxRecDepth 4000
namespace Go.Proofs.YtgglaabljlhliaaGreat
open Go Go.RowKit Go.V

abbrev hdA (t:Ty):AV:=.agg [.str t.con,.int .i64 t.var,.int .i64 t.args.length]
theorem qds {t:Ty} (hw:(encY t).wf):t.args.length≤maxLen:=((q3m t).1 hw).1
attribute [go_sem] hdA
theorem qif (t:Ty):qk Tryz.prog 70 [encY t] (hdA t):=by
 refine qd c0bt (by simp) (by simp only [go_sem]) rfl fun hw=>?_
 have hk:=qds hw.1
 repeat' (first | refine vs_ ?_ | ((first | refine vr_ ?_ | (refine cs_ ?_ ?_<;>intro hc) | refine cj_ ?_ | fail)<;>(try refine ev_ ?_)) | with_reducible exact ti_)
 all_goals (try rfl)
def hdEq (a b:Ty):Bool:=decide (a.con = b.con) && (decide (a.var = b.var) && decide ((a.args.length:Int) = b.args.length))
theorem qwt {a b:Ty} (h:hdEq a b = true):a.con = b.con∧a.var = b.var∧a.args.length = b.args.length:=by
 simp only [hdEq,Bool.and_eq_true,decide_eq_true_eq] at h
 exact ⟨h.1,h.2.1,by omega⟩
theorem qbth {a b:Ty} (h:hdEq a b = false):qe8 a b = false:=by
 cases hs:qe8 a b with
 | false=>rfl
 | true =>
   have:=(qh6 a b).1 hs
   subst this
   simp [hdEq] at h
theorem qbcl {a b:Ty} {i:Nat} (h:hdEq a b = true) (ha:qbx (a.args.drop i) (b.args.drop i) = qbx a.args b.args):qe8 a b = qbx (a.args.drop i) (b.args.drop i):=by
 obtain ⟨h1,h2,h3⟩:=qwt h
 rw [ha,qgz];simp [h1,h2]
theorem qjc:∀ a b,qk Tryz.prog 42 [encY a,encY b] (.bool (qe8 a b)):=by
 refine Ty.ind fun a ih b=>?_
 refine qd c0bu (by simp) (by simp only [go_sem]) rfl fun hw=>?_
 have hkl:=qds hw.1
 have hkr:=qds hw.2.1
 repeat' (first | refine vs_ ?_ | ((first | refine vr_ ?_ | refine qa (qif _) fun _=>?_ | refine qc (qif _) ?_ | (refine cs_ ?_ ?_<;>intro hc) | refine cj_ ?_ | simp (disch:=omega) only [encs_getN,qb])<;>(try refine ev_ ?_)) | with_reducible exact ti_)
 ·rw [qbth (by simpa [hdEq] using hc)]
 have hq:hdEq a b = true:=by simpa [hdEq] using hc
 clear hc
 refine qj (S:=Nat) (fun i=>i≤a.args.length∧qbx (a.args.drop i) (b.args.drop i) = qbx a.args b.args) (fun i=>(⟨[(2,.ptr 0 0),(3,.ptr 1 0),(13,.int .i64 a.args.length),(14,.int .i64 i)],[]⟩,[.blk (yc a),.blk (yc b)])) (fun i=>a.args.length - i) ?_ fun i hi=>?_
 ·refine qf 0 [0,1] ⟨Nat.zero_le _,rfl⟩ rfl (by simp) ?_ ?_ ?_<;>(try refine ev_ ?_)<;>(try with_reducible exact ti_)<;>(try simp (disch:=omega) only [qb,and_true,true_and])
 ·obtain ⟨hi,ha⟩:=hi
  have hf:=qbcl hq ha
  obtain ⟨q1,q2,q3⟩:=qwt hq
  repeat' (first | refine vs_ ?_ | ((first | refine vr_ ?_ | fail)<;>(try simp (disch:=first | omega | (simp only [List.length_set,List.length_append,List.length_cons,List.length_nil];done) | (simp only [List.length_set,List.length_append,List.length_cons,List.length_nil];omega)) only [qb6,qb,go_sem,↓reduceIte])) | ((first | (refine cs_ ?_ ?_<;>intro hc) | refine cj_ ?_ | simp (disch:=omega) only [encs_getN,qb] | refine qa (ih _ (qb2 (by omega)) _) fun _=>?_ | refine qc (ih _ (qb2 (by omega)) _) ?_)<;>(try refine ev_ ?_)) | with_reducible exact ti_)
  ·rw [hf,qfc (by omega) (by omega),hc];rfl
  ·refine qf (i + 1) [0,1] ⟨⟨by omega,?_⟩,by omega⟩ rfl (by simp) ?_ ?_ ?_<;>(try refine ev_ ?_)<;>(try with_reducible exact ti_)<;>(try simp (disch:=omega) only [qb,and_true,true_and])
   rw [← ha,qfc (l:=a.args) (l':=b.args) (i:=i) (by omega) (by omega),hc,Bool.true_and]
  ·rw [hf,qnz (by omega) (by omega)]
theorem q92 {a b:Ty} {i:Nat} (h1:a.con = b.con) (h2:a.var = b.var) (ha:qbx (a.args.drop i) (b.args.drop i) = qbx a.args b.args):qe8 a b = qbx (a.args.drop i) (b.args.drop i):=by
 rw [ha,qgz];simp [h1,h2]
theorem qy3:∀ a b,qk Tryz.prog 61 [encY a,encY b] (.bool (qe8 a b)):=by
 refine Ty.ind fun a ih b=>?_
 refine qd c0bv (by simp) (by simp only [go_sem]) rfl fun hw=>?_
 have hkl:=qds hw.1
 have hkr:=qds hw.2.1
 repeat' (first | refine vs_ ?_ | ((first | refine vr_ ?_ | (refine cs_ ?_ ?_<;>intro hc) | refine cj_ ?_ | simp (disch:=omega) only [encs_getN,qb])<;>(try refine ev_ ?_)) | with_reducible exact ti_)
 ·rw [qgz];simp [*]
 ·rw [qgz];simp [*]
 ·rw [qgz,qmu (by omega)];simp
 rename_i h1 h2
 refine qj (S:=Nat) (fun i=>i≤a.args.length∧qbx (a.args.drop i) (b.args.drop i) = qbx a.args b.args) (fun i=>(⟨[(2,.ptr 0 0),(3,.ptr 1 0),(5,.int .i64 i)],[]⟩,[.blk (yc a),.blk (yc b)])) (fun i=>a.args.length - i) ?_ fun i hi=>?_
 ·refine qf 0 [0,1] ⟨Nat.zero_le _,rfl⟩ rfl (by simp) ?_ ?_ ?_<;>(try refine ev_ ?_)<;>(try with_reducible exact ti_)<;>(try simp (disch:=omega) only [qb,and_true,true_and])
 ·obtain ⟨hi,ha⟩:=hi
  have hf:=q92 h1 h2 ha
  repeat' (first | refine vs_ ?_ | ((first | refine vr_ ?_ | fail)<;>(try simp (disch:=first | omega | (simp only [List.length_set,List.length_append,List.length_cons,List.length_nil];done) | (simp only [List.length_set,List.length_append,List.length_cons,List.length_nil];omega)) only [qb6,qb,go_sem,↓reduceIte])) | ((first | (refine cs_ ?_ ?_<;>intro hc) | refine cj_ ?_ | simp (disch:=omega) only [encs_getN,qb] | refine qa (ih _ (qb2 (by omega)) _) fun _=>?_ | refine qc (ih _ (qb2 (by omega)) _) ?_)<;>(try refine ev_ ?_)) | with_reducible exact ti_)
  ·rw [hf,qfc (by omega) (by omega),hc];rfl
  ·refine qf (i + 1) [0,1] ⟨⟨by omega,?_⟩,by omega⟩ rfl (by simp) ?_ ?_ ?_<;>(try refine ev_ ?_)<;>(try with_reducible exact ti_)<;>(try simp (disch:=omega) only [qb,and_true,true_and])
   rw [← ha,qfc (l:=a.args) (l':=b.args) (i:=i) (by omega) (by omega),hc,Bool.true_and]
  ·rw [hf,qnz (by omega) (by omega)]
/-! heads -/
attribute [go_sem] q73
def fixW (s:List UInt8):Bool:=pfx [33] s && (decide ((qfk (s.drop 1)).2 = 0) && decide (digI (qfk (s.drop 1)).1 = s.drop 1))
theorem q0x {c:UInt8} {s:List UInt8} (h:pfx [c] s = true):1≤s.length:=by
 cases s with
 | nil=>simp [pfx] at h
 | cons d r=>simp
theorem qtr (s:List UInt8):qk Tryz.prog 127 [.str s] (.bool (fixW s)):=by
 refine qd c0bw (by simp) (by simp only [go_sem]) rfl fun hw=>?_
 cases hp:pfx [33] s with
 | false =>
   repeat' (first | refine vs_ ?_ | ((first | refine vr_ ?_ | fail)<;>(try simp only [hp,go_sem,↓reduceIte])) | ((first | (refine cs_ ?_ ?_<;>intro hc) | refine cj_ ?_ | fail | refine qa (qm _ _) fun _=>?_ | refine qc (qm _ _) ?_)<;>(try refine ev_ ?_)) | with_reducible exact ti_)
   simp [fixW,hp]
 | true =>
   have hl:=q0x hp
   repeat' (first | refine vs_ ?_ | ((first | refine vr_ ?_ | fail)<;>(try simp only [hp,go_sem,↓reduceIte])) | ((first | (refine cs_ ?_ ?_<;>intro hc) | refine cj_ ?_ | fail | refine qa (qm _ _) fun _=>?_ | refine qa (qh2 _) fun _=>?_ | refine qa (qef _) fun _=>?_ | refine qc (qm _ _) ?_ | refine qc (qh2 _) ?_ | refine qc (qef _) ?_)<;>(try refine ev_ ?_)) | with_reducible exact ti_)
   all_goals simp_all [fixW]
def mayW (c:List UInt8) (v n:Int):Bool :=
 if c = [] then decide (n = 0) else if c = arrW then decide (v = 0) && decide (n = 2) else if fixW c = true then decide (v = 0) && decide (n = 0) else decide (v = 0) && conW c
theorem q8i (c:List UInt8) (v n:Int):qk Tryz.prog 99 [.agg [.str c,.int .i64 v,.int .i64 n]] (.bool (mayW c v n)):=by
 refine qd c0bx (by simp) (by simp only [go_sem]) rfl fun hw=>?_
 repeat' (first | refine vs_ ?_ | ((first | refine vr_ ?_ | refine qa (qtr _) fun _=>?_ | refine qa (qhk _) fun _=>?_ | (refine cs_ ?_ ?_<;>intro hc) | refine cj_ ?_ | fail)<;>(try refine ev_ ?_)) | with_reducible exact ti_)
 all_goals simp_all [mayW,arrW]
abbrev mayY (t:Ty):Bool:=mayW t.con t.var t.args.length

/-! the walk -/
section
variable {S:Type}
mutual
def qc7 (step:S->Ty->Int->S×Bool):Ty->S->Int->S×Bool
 | .mk c v l,s,k=>if (step s (.mk c v l) k).2 = true then qcj step l (step s (.mk c v l) k).1 (IntKind.i64.wrap (k + 1)) else ((step s (.mk c v l) k).1,false)
def qcj (step:S->Ty->Int->S×Bool):List Ty->S->Int->S×Bool
 | [],s,_=>(s,true)
 | x :: r,s,k=>if (qc7 step x s k).2 = true then qcj step r (qc7 step x s k).1 k else ((qc7 step x s k).1,false)
end
theorem qvb (step:S->Ty->Int->S×Bool) (t:Ty) (s:S) (k:Int):qc7 step t s k = if (step s t k).2 = true then qcj step t.args (step s t k).1 (IntKind.i64.wrap (k + 1)) else ((step s t k).1,false):=by
 cases t;rw [qc7];rfl
theorem qlu (step:S->Ty->Int->S×Bool) {l:List Ty} {i:Nat} (h:i < l.length) (s:S) (k:Int) :
 qcj step (l.drop i) s k = if (qc7 step (l.getD i Y0) s k).2 = true then qcj step (l.drop (i + 1)) (qc7 step (l.getD i Y0) s k).1 k else ((qc7 step (l.getD i Y0) s k).1,false):=by
 rw [qqy h,qcj]
theorem qya (step:S->Ty->Int->S×Bool) {l:List Ty} {i:Nat} (h:l.length≤i) (s:S) (k:Int):qcj step (l.drop i) s k = (s,true):=by
 rw [List.drop_of_length_le h,qcj]
end
section
variable {S:Type} {step:S->Ty->Int->S×Bool} {ok:Nat->S->Prop}
theorem q0u (h2:∀ n s,ok (n + 1) s->ok n s):∀ (d n:Nat) (s:S),ok (n + d) s->ok n s
 | 0,n,s,h=>h
 | d + 1,n,s,h=>q0u h2 d n s (h2 _ _ h)
mutual
theorem q43 (h1:∀ n s t k,ok (n + 1) s->ok n (step s t k).1) (h2:∀ n s,ok (n + 1) s->ok n s):∀ (t:Ty) (s:S) (k:Int) (m:Nat),ok (szY t + m) s->ok m (qc7 step t s k).1
 | .mk c v l, s, k, m, h => by
   rw [szY,show 1 + szYs l + m = szYs l + m + 1 by omega] at h
   have h3:=h1 _ s (.mk c v l) k h
   rw [qc7]
   split
   ·exact qwb h1 h2 l _ _ m h3
   ·exact q0u h2 (szYs l) m _ (by rw [Nat.add_comm];exact h3)
theorem qwb (h1:∀ n s t k,ok (n + 1) s->ok n (step s t k).1) (h2:∀ n s,ok (n + 1) s->ok n s):∀ (l:List Ty) (s:S) (k:Int) (m:Nat),ok (szYs l + m) s->ok m (qcj step l s k).1
 | [],s,k,m,h=>by rw [qcj];rw [szYs,Nat.zero_add] at h;exact h
 | x :: r, s, k, m, h => by
   rw [szYs,Nat.add_assoc] at h
   have h3:=q43 h1 h2 x s k _ h
   rw [qcj]
   split
   ·exact qwb h1 h2 r _ _ m h3
   ·exact q0u h2 (szYs r) m _ (by rw [Nat.add_comm];exact h3)
end
end
section
variable {S:Type}
variable {f:FuncId} {st:S->Ent} {step:S->Ty->Int->S×Bool} {ok:Nat->S->Prop} (hb:∀ s,(st s).bd 0 = true) (h1:∀ n s t k,ok (n + 1) s->ok n (step s t k).1) (h2:∀ n s,ok (n + 1) s->ok n s)
 (hs:∀ s t k,ok 1 s->VM Tryz.prog f (st s) (st (step s t k).1) [encY t,.int .i64 k,.ptr 0 0] (.bool (step s t k).2))
include hb h1 h2 hs
theorem qz5:∀ t s k,ok (szY t) s->VM Tryz.prog 97 (st s) (st (qc7 step t s k).1) [encY t,.int .i64 k,.fn f [] [.ptr 0 0]] (.bool (qc7 step t s k).2):=by
 refine Ty.ind fun t ih s k hok=>?_
 have hb1:∀ s k,(st s).bd k = true:=fun s k=>Ent.bd_le (Nat.zero_le _) _ (hb s)
 have hbr:∀ s σ,(st s).ren σ = st s:=fun s σ=>Ent.ren_bd0 (hb s)
 refine qig (by kernel_rfl) fun hw=>?_
 have hk:=qds hw.1
 have hok1:ok 1 s:=q0u h2 (szYs t.args) 1 s (by rw [← qin];exact hok)
 have hok2:ok (szYs t.args) (step s t k).1:=h1 _ _ _ _ (by rw [Nat.add_comm,← qin];exact hok)
 refine qr c0by 1 (by simp) (by simp) ?_
 repeat' (first | refine vs_ ?_ | ((first | refine vr_ ?_ | fail)<;>(try simp only [hb1,hbr,go_sem,↓reduceIte])) | ((first | (refine cs_ ?_ ?_<;>intro hc) | refine cj_ ?_ | simp (disch:=omega) only [encs_getN,qb] | refine qcc 0 (hs _ _ _ hok1) ?_ (hb _) (hb _))<;>(try refine ev_ ?_)) | with_reducible exact ti_)
 ·rw [qvb,if_neg (by rw [hc];simp)];exact ⟨hb1 _ _,rfl,rfl⟩
 have hw0:=qvb step t s k
 rw [if_pos hc] at hw0
 generalize qc7 step t s k = tg at hw0 ⊢
 generalize hk1:IntKind.i64.wrap (k + 1) = k1 at hw0
 refine qj (S:=Nat×S) (fun x=>x.1≤t.args.length∧qcj step (t.args.drop x.1) x.2 k1 = tg∧ok (szYs (t.args.drop x.1)) x.2) (fun x=>(⟨[(1,.int .i64 k),(2,.fn f [] [.ptr 0 0]),(15,.sl 3 (qx t.args)),(16,.int .i64 t.args.length),(17,.int .i64 x.1)],[]⟩,[st x.2])) (fun x=>t.args.length - x.1) ?_ fun x hx=>?_
 ·refine qbei (0,(step s t k).1) [.blk (yc t)] ⟨Nat.zero_le _,hw0.symm,hok2⟩ (Nat.le_refl _) rfl (by simp only [List.all_cons,List.all_nil,hb1,Bool.and_true]) ?_ rfl rfl<;>(try refine ev_ ?_)<;>(try with_reducible exact ti_)<;>(try simp (disch:=omega) only [qb,and_true,true_and])
 ·obtain ⟨i,s1⟩:=x
  obtain ⟨hi,hx,hok3⟩:=hx
  dsimp only at hi hx hok3
  have hok4:i < t.args.length->ok (szY (t.args.getD i Y0) + szYs (t.args.drop (i + 1))) s1:=fun h=>by rw [qqy h,szYs] at hok3;exact hok3
  have hok5:i < t.args.length->ok (szY (t.args.getD i Y0)) s1:=fun h=>q0u h2 _ _ _ (hok4 h)
  repeat' (first | refine vs_ ?_ | ((first | refine vr_ ?_ | fail)<;>(try simp (disch:=first | omega | (simp only [List.length_set,List.length_append,List.length_cons,List.length_nil];done) | (simp only [List.length_set,List.length_append,List.length_cons,List.length_nil];omega)) only [hb1,hbr,qb6,qb,hk1,go_sem,↓reduceIte])) | ((first | (refine cs_ ?_ ?_<;>intro hc) | refine cj_ ?_ | simp (disch:=omega) only [encs_getN,qb] | refine qcc 0 (ih (t.args.getD i Y0) (qb2 (by omega)) s1 k1 (hok5 (by omega))) ?_ (hb _) (hb _))<;>(try refine ev_ ?_)) | with_reducible exact ti_)
  ·rw [qlu step (by omega),if_neg (by rw [hc];simp)] at hx
   subst hx
   exact ⟨hb1 _ _,rfl,rfl⟩
  ·rw [qlu step (by omega),if_pos (by rw [hc])] at hx
   refine qbei (i + 1,(qc7 step (t.args.getD i Y0) s1 k1).1) [.blk (yc (t.args.getD i Y0))] ⟨⟨by dsimp only;omega,hx,q43 h1 h2 _ _ _ _ (hok4 (by omega))⟩,by dsimp only;omega⟩ (Nat.le_refl _) rfl (by simp only [List.all_cons,List.all_nil,hb1,Bool.and_true]) ?_ rfl rfl<;>(try refine ev_ ?_)<;>(try with_reducible exact ti_)<;>(try simp (disch:=omega) only [qb,and_true,true_and])
  ·rw [qya step (by omega)] at hx
   subst hx
   exact ⟨hb1 _ _,rfl,rfl⟩
end
end Go.Proofs.YtgglaabljlhliaaGreat
