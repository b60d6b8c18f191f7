/- Texts of this proof, joined. -/
import Derived.Test.YtkenggenkmfopaaGreatNbr
import Derived.Test.YtkenggenkmfopaaGreatNat
import Derived.Test.YtkenggenkmfopaaGreatNak
import Derived.Test.YtkenggenkmfopaaGreatNbk
set_option linter.unusedVariables false
set_option linter.unusedSimpArgs false

/- matching: what it finds -/
namespace Go.Proofs.YtkenggenkmfopaaGreat
open Go Go.RowKit Go.V

mutual
def subF (f:Int->Ty):Ty->Ty
 | .mk c v l=>if c = [] then f v else .mk c v (qc0 f l)
def qc0 (f:Int->Ty):List Ty->List Ty
 | []=>[]
 | x :: r=>subF f x :: qc0 f r
end
theorem q05 (f:Int->Ty):∀ l,(qc0 f l).length = l.length
 | []=>rfl
 | x :: r=>by rw [qc0,List.length_cons,List.length_cons,q05 f r]
def funR (s:List Pr) (v:Int):Ty:=(qn v s).getD (.mk [] v [])
mutual
theorem qfv (s:List Pr):∀ t,bare t->putY s t = subF (funR s) t
 | .mk c v l, h => by
   rw [bare] at h
   rw [putY,subF]
   split
   ·rename_i hc
    have hl:l = []:=h.1 hc
    subst hl
    rw [funR]
    subst hc
    cases qn v s<;>rfl
   ·rw [qnu s l h.2]
theorem qnu (s:List Pr):∀ l,qhc l->qd5 s l = qc0 (funR s) l
 | [],_=>by rw [qd5,qc0]
 | x :: r, h => by
   rw [qhc] at h
   rw [qd5,qc0,qfv s x h.1,qnu s r h.2]
end
mutual
theorem qqb (f g:Int->Ty):∀ t,subF g (subF f t) = subF (fun v=>subF g (f v)) t
 | .mk c v l => by
   rw [subF,subF]
   split
   ·rfl
   ·rename_i hc
    rw [subF,if_neg hc,qma f g l]
theorem qma (f g:Int->Ty):∀ l,qc0 g (qc0 f l) = qc0 (fun v=>subF g (f v)) l
 | []=>by simp only [qc0]
 | x :: r=>by rw [qc0,qc0,qc0,qqb f g x,qma f g r]
end
theorem qz8 (c:List UInt8) (v:Int) (l:List Ty):szY (.mk c v l) = 1 + szYs l:=by rw [szY]
theorem qfd (c:List UInt8) (v:Int) (l:List Ty):varY (.mk c v l) = (if c = [] then [v] else []) ++ qc8 l:=by rw [varY]
theorem qs6 {t:Ty} (h:qb4 t = true) (hc:t.con≠[]):t.var = 0:=by
 rw [qfj,Bool.and_eq_true] at h
 have h2:=h.2
 rw [mayY,mayW,if_neg hc] at h2
 split at h2
 ·simp at h2;exact h2.1
 split at h2
 ·simp at h2;exact h2.1
 ·simp at h2;exact h2.1

theorem qbv {t:Ty} (h:qf t = true):bare t:=qdh t ((qs t).1 h).2.2
theorem qog:∀ {s:List Pr},risR s->(s.map Pr.v).Nodup
 | [],_=>List.Pairwise.nil
 | p :: r, h => by
   rw [List.map_cons,List.nodup_cons]
   refine ⟨fun hm=>?_,qog h.2⟩
   obtain ⟨q,h1,h2⟩:=List.mem_map.1 hm
   have:=h.1 q h1
   omega
/-! the reference's -/
theorem qi6 {t a:Ty} (h:qf t = true) (ha:a∈t.args):qf a = true:=by
 obtain ⟨h1,h2,h3⟩:=(qs t).1 h
 have q1:=qnb ha
 have q2:=qz4 ha
 rw [qib] at h1
 rw [qzo] at h2
 rw [qfj,Bool.and_eq_true] at h3
 refine (qs a).2 ⟨by omega,by omega,?_⟩
 have:∀ l:List Ty,qbz l = true->∀ a∈l,qb4 a = true:=fun l=>by
  induction l with
  | nil=>intro _ a ha;cases ha
  | cons x r ih =>
    intro hl a ha
    rw [qbz,Bool.and_eq_true] at hl
    rcases List.mem_cons.1 ha with rfl | ha
    ·exact hl.1
    ·exact ih hl.2 a ha
 exact this _ h3.1 a ha

def bndU (s:List Pr) (v:Int) (t:Ty):List Pr×Int:=if t.con = []∧t.var = v then (s,0) else if v∈varY t then ([],15) else behR s [⟨v,t⟩]
def hdU (s:List Pr) (A B:Ty):(List Pr×Int)×List (Ty×Ty) :=
 if A.con = [] then (bndU s A.var B,[]) else if B.con = [] then (bndU s B.var A,[]) else if A.con = B.con∧A.args.length = B.args.length then ((s,0),A.args.zip B.args) else (([],14),[])
def stpU (s:List Pr) (a b:Ty):(List Pr×Int)×List (Ty×Ty) :=
 if (appR s a).2 = 0 then (if (appR s b).2 = 0 then hdU s (appR s a).1 (appR s b).1 else (([],(appR s b).2),[])) else (([],(appR s a).2),[])
def slvU:Nat->List Pr->List (Ty×Ty)->Option (List Pr×Int)
 | _,s,[]=>some (s,0)
 | 0,_,_ :: _=>none
 | n + 1,s,x :: r=>if (stpU s x.1 x.2).1.2 = 0 then slvU n (stpU s x.1 x.2).1.1 ((stpU s x.1 x.2).2 ++ r) else some ([],(stpU s x.1 x.2).1.2)
theorem qil (n:Nat) (s:List Pr):slvU n s [] = some (s,0):=by cases n<;>rfl
theorem ql8:∀ (n:Nat) (s:List Pr) (xs ys:List (Ty×Ty)) (r:List Pr×Int),slvU n s (xs ++ ys) = some r →
 ∃ m q,m≤n∧slvU m s xs = some q∧(q.2≠0->r = q∧q.1 = [])∧(q.2 = 0->∃ k,k≤n∧slvU k q.1 ys = some r)
 | n,s,[],ys,r,h=>⟨n,(s,0),Nat.le_refl _,qil _ _,fun h=>absurd rfl h,fun _=>⟨n,Nat.le_refl _,h⟩⟩
 | 0,s,x :: xs,ys,r,h=>by simp [slvU] at h
 | n + 1, s, x :: xs, ys, r, h => by
   rw [List.cons_append,slvU] at h
   by_cases he:(stpU s x.1 x.2).1.2 = 0
   ·rw [if_pos he,← List.append_assoc] at h
    obtain ⟨m,q,h1,h2,h3,h4⟩:=ql8 n _ _ ys r h
    refine ⟨m + 1,q,by omega,by rw [slvU,if_pos he];exact h2,h3,fun hq=>?_⟩
    obtain ⟨k,h5,h6⟩:=h4 hq
    exact ⟨k,by omega,h6⟩
   ·rw [if_neg he] at h
    refine ⟨1,([],(stpU s x.1 x.2).1.2),by omega,by rw [slvU,if_neg he],fun _=>⟨?_,rfl⟩,fun hq=>absurd hq he⟩
    simpa using h.symm
/-! types under functions -/
theorem var1 (v:Int):varY (.mk [] v []) = [v]:=by rw [qfd,qc8,if_pos rfl];rfl
mutual
theorem qiv (f:Int->Ty):∀ t,bare t->∀ w,w∈varY (subF f t)->∃ v,v∈varY t∧w∈varY (f v)
 | .mk c v l, hb, w, hw => by
   rw [bare] at hb
   rw [subF] at hw
   by_cases hc:c = []
   ·rw [if_pos hc] at hw
    exact ⟨v,by rw [qfd,if_pos hc];simp,hw⟩
   ·rw [if_neg hc,qfd,if_neg hc,List.nil_append] at hw
    obtain ⟨x,h1,h2⟩:=qp6 f l hb.2 w hw
    exact ⟨x,by rw [qfd];simp [h1],h2⟩
theorem qp6 (f:Int->Ty):∀ l,qhc l->∀ w,w∈qc8 (qc0 f l)->∃ v,v∈qc8 l∧w∈varY (f v)
 | [],hb,w,hw=>by rw [qc0,qc8] at hw;simp at hw
 | x :: r, hb, w, hw => by
   rw [qc0,qc8] at hw
   rcases List.mem_append.1 hw with hw | hw
   ·obtain ⟨v,h1,h2⟩:=qiv f x hb.1 w hw
    exact ⟨v,by rw [qc8];simp [h1],h2⟩
   ·obtain ⟨v,h1,h2⟩:=qp6 f r hb.2 w hw
    exact ⟨v,by rw [qc8];simp [h1],h2⟩
end
mutual
theorem qr2 (f:Int->Ty):∀ t,bare t->(∀ w,w∈varY t->f w = .mk [] w [])->subF f t = t
 | .mk c v l, hb, h => by
   rw [bare] at hb
   rw [subF]
   by_cases hc:c = []
   ·rw [if_pos hc,h v (by rw [qfd,if_pos hc];simp),hc,hb.1 hc]
   ·rw [if_neg hc,qsz f l hb.2 fun w hw=>h w (by rw [qfd];simp [hw])]
theorem qsz (f:Int->Ty):∀ l,qhc l->(∀ w,w∈qc8 l->f w = .mk [] w [])->qc0 f l = l
 | [],_,_=>by rw [qc0]
 | x :: r, hb, h => by
   rw [qc0,qr2 f x hb.1 fun w hw=>h w (by rw [qc8];simp [hw]),qsz f r hb.2 fun w hw=>h w (by rw [qc8];simp [hw])]
end
theorem qdj {s:List Pr} {v:Int} (h:qn v s = none):funR s v = .mk [] v []:=by rw [funR,h];rfl
def abs (f:Int->Ty) (s:List Pr):Prop:=∀ v,subF f (funR s v) = f v
theorem qqg {f:Int->Ty} {s:List Pr} (h:abs f s) {t:Ty} (hb:bare t):subF f (putY s t) = subF f t:=by
 rw [qfv s t hb,qqb]
 congr 1
 exact funext h
def sep (s:List Pr):Prop:=∀ p∈s,∀ w,w∈varY p.ty->qn w s = none
theorem qqn {s:List Pr} (ho:okS s) (h:sep s) {t:Ty} (hb:bare t) {w:Int} (hw:w∈varY (putY s t)):qn w s = none:=by
 rw [qfv s t hb] at hw
 obtain ⟨v,h1,h2⟩:=qiv _ t hb w hw
 cases hl:qn v s with
 | none=>rw [qdj hl,var1] at h2;simp at h2;subst h2;exact hl
 | some u =>
   rw [funR,hl] at h2
   obtain ⟨p,hp,rfl,rfl⟩:=qed hl
   exact h p hp w h2
theorem q1s {s:List Pr} {t:Ty} (hb:bare t) (h:∀ w,w∈varY t->qn w s = none):putY s t = t:=by
 rw [qfv s t hb]
 exact qr2 _ t hb fun w hw=>qdj (h w hw)
/-! a variable more -/
theorem qw8 {s:List Pr} (hs:okS s) {t:Ty} (ht:qf t = true):(appR s t).2 = 0∨(appR s t).2 = 2:=by
 rw [qq9 hs,if_pos ht];split
 ·exact .inl rfl
 ·exact .inr rfl
theorem q0a {t:List Pr} (ht:okS t):∀ (s acc:List Pr),(∀ p∈s,qf p.ty = true)->(qhf t acc s).2 = 0∨(qhf t acc s).2 = 2
 | [],acc,_=>.inl rfl
 | p :: r, acc, h => by
   rw [qhf]
   split
   ·exact q0a ht r _ fun q hq=>h q (by simp [hq])
   ·rename_i hn
    exact .inr ((qw8 ht (h p (by simp))).resolve_left hn)
theorem q8o {s t:List Pr} (hs:okS s) (ht:okS t):(behR s t).2 = 0∨(behR s t).2 = 2∧(behR s t).1 = []:=by
 rw [behR]
 split
 ·exact .inl rfl
 ·rename_i h
  exact .inr ⟨(q0a ht s [] hs.2).resolve_left h,rfl⟩
theorem qd2 {v:Int} {B:Ty} (h:qf B = true):okS [⟨v,B⟩]:=⟨⟨fun q hq=>by simp at hq,trivial⟩,fun p hp=>by simp at hp;subst hp;exact h⟩
theorem qbpc {s:List Pr} (hs:okS s) {v:Int} {B:Ty} (hB:qf B = true) (hn:qn v s = none) (he:(behR s [⟨v,B⟩]).2 = 0):(behR s [⟨v,B⟩]).1 = insR v B (s.map fun p=>⟨p.v,putY [⟨v,B⟩] p.ty⟩):=by
 rw [behR] at he ⊢
 split at he
 ·rename_i h0
  rw [if_pos h0]
  obtain ⟨q1,_⟩:=qgz (qd2 hB) s [] h0
  rw [List.nil_append] at q1
  show (setR _ v B).1 = _
  rw [q1,setR,if_pos hB,qmj,hn];rfl
 ·rename_i h0;exact absurd he h0
theorem qvu (x v:Int) (B:Ty):qn x [⟨v,B⟩] = if v = x then some B else none:=by rw [qn];rfl
theorem q6g {s:List Pr} (hs:okS s) {v:Int} {B:Ty} (hB:qf B = true) (hn:qn v s = none) (he:(behR s [⟨v,B⟩]).2 = 0) (x:Int):funR (behR s [⟨v,B⟩]).1 x = match qn x s with | some u=>putY [⟨v,B⟩] u | none=>if x = v then B else .mk [] x []:=by
 rw [funR,qoy hs (qd2 hB) he,qvu]
 cases hl:qn x s with
 | some u=>rfl
 | none =>
   by_cases hx:x = v
   ·rw [if_pos hx,if_pos hx.symm];rfl
   ·rw [if_neg hx,if_neg (fun h=>hx h.symm)];rfl
structure Inv (V:List Int) (s:List Pr) (st:List (Ty×Ty)):Prop where
 ok:okS s
 sep:sep s
 keys:∀ p∈s,p.v∈V
 vars:∀ p∈s,∀ w,w∈varY p.ty->w∈V
 leg:∀ x∈st,qf x.1 = true∧qf x.2 = true
 stk:∀ x∈st,∀ w,w∈varY x.1∨w∈varY x.2->w∈V
theorem Inv.tail {V:List Int} {s:List Pr} {x:Ty×Ty} {st:List (Ty×Ty)} (h:Inv V s (x :: st)):Inv V s st :=
 ⟨h.ok,h.sep,h.keys,h.vars,fun y hy=>h.leg y (by simp [hy]),fun y hy=>h.stk y (by simp [hy])⟩
theorem qzh {t:Ty} (h:qf t = true) (hc:t.con = []):t = .mk [] t.var []:=ty_eq.2 ⟨⟨hc,rfl⟩,qnw (qgd h) hc⟩
theorem qin {V:List Int} {s:List Pr} {st:List (Ty×Ty)} (h:Inv V s st) {t:Ty} (hb:bare t) (ht:∀ w,w∈varY t->w∈V) {w:Int} (hw:w∈varY (putY s t)):w∈V:=by
 rw [qfv s t hb] at hw
 obtain ⟨v,h1,h2⟩:=qiv _ t hb w hw
 cases hl:qn v s with
 | none=>rw [qdj hl,var1] at h2;simp at h2;subst h2;exact ht _ h1
 | some u =>
   rw [funR,hl] at h2
   obtain ⟨p,hp,rfl,rfl⟩:=qed hl
   exact h.vars p hp w h2
theorem q5e {V:List Int} {s:List Pr} {st:List (Ty×Ty)} (h:Inv V s st) {v:Int} {B:Ty} (hB:qf B = true) (hv:v∈V) (hn:qn v s = none) (hBV:∀ w,w∈varY B->w∈V) (hBn:∀ w,w∈varY B->qn w s = none) (ho:v ∉ varY B) (he:(behR s [⟨v,B⟩]).2 = 0) :
 Inv V (behR s [⟨v,B⟩]).1 st∧(behR s [⟨v,B⟩]).1.length = s.length + 1:=by
 have heq:=qbpc h.ok hB hn he
 have hok:=qym h.ok (qd2 (v:=v) hB)
 have hlk:=qoy h.ok (qd2 (v:=v) hB) he
 have hmem:∀ p∈(behR s [⟨v,B⟩]).1,p = ⟨v,B⟩∨∃ q∈s,p = ⟨q.v,putY [⟨v,B⟩] q.ty⟩:=fun p hp=>by
  rw [heq] at hp
  rcases insR_mem.1 hp with rfl | hp
  ·exact .inl rfl
  ·obtain ⟨q,hq,rfl⟩:=List.mem_map.1 hp
   exact .inr ⟨q,hq,rfl⟩
 have hpv:∀ q∈s,∀ w,w∈varY (putY [⟨v,B⟩] q.ty)->(w∈varY q.ty∧w≠v)∨w∈varY B:=fun q hq w hw=>by
  have hb:=qbv (h.ok.2 q hq)
  rw [qfv _ _ hb] at hw
  obtain ⟨x,h1,h2⟩:=qiv _ _ hb w hw
  by_cases hx:v = x
  ·rw [funR,qvu,if_pos hx] at h2
   exact .inr h2
  ·rw [funR,qvu,if_neg hx,Option.getD_none,var1] at h2
   simp at h2
   subst h2
   exact .inl ⟨h1,fun h=>hx h.symm⟩
 have hfree:∀ w,qn w s = none->w≠v->qn w (behR s [⟨v,B⟩]).1 = none:=fun w h1 h2=>by
  rw [hlk,h1,qvu,if_neg (fun h=>h2 h.symm)]
 refine ⟨⟨hok,fun p hp w hw=>?_,fun p hp=>?_,fun p hp w hw=>?_,h.leg,h.stk⟩,by rw [heq,qm0,List.length_map]⟩
 ·rcases hmem p hp with rfl | ⟨q,hq,rfl⟩
  ·exact hfree w (hBn w hw) fun h=>ho (h ▸ hw)
  ·rcases hpv q hq w hw with ⟨h1,h2⟩ | h1
   ·exact hfree w (h.sep q hq w h1) h2
   ·exact hfree w (hBn w h1) fun h=>ho (h ▸ h1)
 ·rcases hmem p hp with rfl | ⟨q,hq,rfl⟩
  ·exact hv
  ·exact h.keys q hq
 ·rcases hmem p hp with rfl | ⟨q,hq,rfl⟩
  ·exact hBV w hw
  ·rcases hpv q hq w hw with ⟨h1,h2⟩ | h1
   ·exact h.vars q hq w h1
   ·exact hBV w h1
def qbas (A B:Ty) (v:Int) (t:Ty):Prop:=(A = .mk [] v []∧B = t)∨(B = .mk [] v []∧A = t)
inductive StepU (V:List Int) (s:List Pr) (a b:Ty):(List Pr×Int)×List (Ty×Ty)->Prop
 | same (h:putY s a = putY s b):StepU V s a b ((s,0),[])
 | bind (v:Int) (t:Ty) (hp:qbas (putY s a) (putY s b) v t) (ht:qf t = true) (hv:v∈V) (hn:qn v s = none) (hV:∀ w,w∈varY t->w∈V) (hf:∀ w,w∈varY t->qn w s = none) (ho:v ∉ varY t) (he:(behR s [⟨v,t⟩]).2 = 0):StepU V s a b (behR s [⟨v,t⟩],[])
 | args (c:List UInt8) (x y:Int) (l m:List Ty) (hA:putY s a = .mk c x l) (hB:putY s b = .mk c y m) (hc:c≠[]) (hl:l.length = m.length) (h1:qf (.mk c x l) = true) (h2:qf (.mk c y m) = true):StepU V s a b ((s,0),l.zip m)
 | limit:StepU V s a b (([],2),[])
 | heads (h1:(putY s a).con≠[]) (h2:(putY s b).con≠[]) (h:¬ ((putY s a).con = (putY s b).con∧(putY s a).args.length = (putY s b).args.length)):StepU V s a b (([],14),[])
 | occurs (v:Int) (t:Ty) (hp:qbas (putY s a) (putY s b) v t) (ht:qf t = true) (hv:v∈varY t) (hn:¬ (t.con = []∧t.var = v)):StepU V s a b (([],15),[])
theorem qsk {V:List Int} {s:List Pr} {a b:Ty} {st:List (Ty×Ty)} (h:Inv V s st) {v:Int} {t:Ty} (hp:qbas (putY s a) (putY s b) v t) (ht:qf t = true) (hv:v∈V) (hn:qn v s = none) (hV:∀ w,w∈varY t->w∈V) (hf:∀ w,w∈varY t->qn w s = none):StepU V s a b (bndU s v t,[]):=by
 rw [bndU]
 split
 ·rename_i h1
  refine .same ?_
  have:t = .mk [] v []:=by rw [qzh ht h1.1,h1.2]
  rcases hp with ⟨p1,p2⟩ | ⟨p1,p2⟩
  ·rw [p1,p2,this]
  ·rw [p1,p2,this]
 ·rename_i h1
  split
  ·rename_i h2
   exact .occurs v t hp ht h2 h1
  ·rename_i h2
   rcases q8o h.ok (qd2 (v:=v) ht) with he | ⟨he,he'⟩
   ·exact .bind v t hp ht hv hn hV hf h2 he
   ·rw [show behR s [⟨v,t⟩] = ([],2) from Prod.ext he' he]
    exact .limit
theorem qn1 {V:List Int} {s:List Pr} {a b:Ty} {st:List (Ty×Ty)} (h:Inv V s ((a,b) :: st)):StepU V s a b (stpU s a b):=by
 obtain ⟨ha,hb⟩:=h.leg (a,b) (by simp)
 have hba:=qbv ha
 have hbb:=qbv hb
 rw [stpU]
 by_cases e1:(appR s a).2 = 0
 case neg =>
  rw [if_neg e1,(qw8 h.ok ha).resolve_left e1];exact .limit
 rw [if_pos e1]
 by_cases e2:(appR s b).2 = 0
 case neg =>
  rw [if_neg e2,(qw8 h.ok hb).resolve_left e2];exact .limit
 rw [if_pos e2]
 obtain ⟨_,hA,eA⟩:=qce h.ok e1
 obtain ⟨_,hB,eB⟩:=qce h.ok e2
 rw [eA,eB]
 have fA:∀ w,w∈varY (putY s a)->qn w s = none:=fun w hw=>qqn h.ok h.sep hba hw
 have fB:∀ w,w∈varY (putY s b)->qn w s = none:=fun w hw=>qqn h.ok h.sep hbb hw
 have vA:∀ w,w∈varY (putY s a)->w∈V:=fun w hw=>qin h hba (fun w hw=>h.stk (a,b) (by simp) w (.inl hw)) hw
 have vB:∀ w,w∈varY (putY s b)->w∈V:=fun w hw=>qin h hbb (fun w hw=>h.stk (a,b) (by simp) w (.inr hw)) hw
 rw [hdU]
 by_cases c1:(putY s a).con = []
 ·rw [if_pos c1]
  have hvar:=qzh hA c1
  have hmem:(putY s a).var∈varY (putY s a):=by rw [hvar,var1];exact List.mem_singleton.2 rfl
  exact qsk h (.inl ⟨hvar,rfl⟩) hB (vA _ hmem) (fA _ hmem) vB fB
 rw [if_neg c1]
 by_cases c2:(putY s b).con = []
 ·rw [if_pos c2]
  have hvar:=qzh hB c2
  have hmem:(putY s b).var∈varY (putY s b):=by rw [hvar,var1];exact List.mem_singleton.2 rfl
  exact qsk h (.inr ⟨hvar,rfl⟩) hA (vB _ hmem) (fB _ hmem) vA fA
 rw [if_neg c2]
 by_cases c3:(putY s a).con = (putY s b).con∧(putY s a).args.length = (putY s b).args.length
 ·rw [if_pos c3]
  have hA':putY s a = .mk (putY s a).con (putY s a).var (putY s a).args:=ty_eq.2 ⟨⟨rfl,rfl⟩,rfl⟩
  have hB':putY s b = .mk (putY s a).con (putY s b).var (putY s b).args:=ty_eq.2 ⟨⟨c3.1.symm,rfl⟩,rfl⟩
  refine .args _ _ _ _ _ hA' hB' c1 c3.2 (by rw [← hA'];exact hA) (by rw [← hB'];exact hB)
 ·rw [if_neg c3]
  exact .heads c1 c2 c3

def wtU (s:List Pr):List (Ty×Ty)->Nat
 | []=>0
 | x :: r=>szY (putY s x.1) + wtU s r
theorem qxa (s:List Pr):∀ a b,wtU s (a ++ b) = wtU s a + wtU s b
 | [],b=>by simp [wtU]
 | x :: a,b=>by rw [List.cons_append,wtU,wtU,qxa s a b];omega
theorem qrj (s:List Pr):∀ a,a.length≤wtU s a
 | []=>Nat.zero_le _
 | x :: a=>by have:=qre (putY s x.1);have:=qrj s a;rw [List.length_cons,wtU];omega
theorem q0e {s:List Pr}:∀ (l m:List Ty),(∀ x∈l,putY s x = x)->wtU s (l.zip m)≤szYs l
 | [],m,_=>by simp [wtU]
 | x :: l,[],_=>by simp [wtU]
 | x :: l, y :: m, h => by
   have:=q0e l m fun z hz=>h z (by simp [hz])
   rw [List.zip_cons_cons,wtU,szYs,h x (by simp)]
   omega
theorem q0j {l m:List Ty} {x:Ty×Ty} (h:x∈l.zip m):x.1∈l∧x.2∈m:=⟨(List.of_mem_zip h).1,(List.of_mem_zip h).2⟩
theorem qio:∀ {l:List Ty} {t:Ty} {w:Int},t∈l->w∈varY t->w∈qc8 l
 | [],t,w,h,_=>by simp at h
 | x :: r, t, w, h, hw => by
   rw [qc8]
   rcases List.mem_cons.1 h with rfl | h
   ·simp [hw]
   ·simp [qio h hw]
theorem qmi {c:List UInt8} {x:Int} {l:List Ty} {w:Int} (h:w∈qc8 l):w∈varY (.mk c x l):=by rw [qfd];simp [h]
theorem qmt {V:List Int} {s:List Pr} {a b:Ty} {st:List (Ty×Ty)} (h:Inv V s ((a,b) :: st)) {q:(List Pr×Int)×List (Ty×Ty)} (hq:StepU V s a b q) (he:q.1.2 = 0) :
 Inv V q.1.1 (q.2 ++ st)∧((q.1.1 = s∧wtU s q.2 < szY (putY s a)∧wtU s q.2≤4096)∨(q.2 = []∧q.1.1.length = s.length + 1)):=by
 cases hq with
 | same hh=>exact ⟨h.tail,.inl ⟨rfl,qre _,by simp [wtU]⟩⟩
 | bind v t hp ht hv hn hV hf ho he' =>
   obtain ⟨h1,h2⟩:=q5e h.tail ht hv hn hV hf ho he'
   exact ⟨h1,.inr ⟨rfl,h2⟩⟩
 | args c x y l m hA hB hc hl h1 h2 =>
   have ha:=qbv (h.leg (a,b) (by simp)).1
   have hb:=qbv (h.leg (a,b) (by simp)).2
   have hlf:∀ z∈l,putY s z = z:=fun z hz=>q1s (qbv (qi6 (t:=.mk c x l) h1 hz)) fun w hw=>qqn h.ok h.sep ha (by rw [hA];exact qmi (qio hz hw))
   have hw:=q0e l m hlf
   have hsz:szYs l < 4096:=by
    have:=((qs _).1 h1).1
    rw [qz8] at this;omega
   refine ⟨⟨h.ok,h.sep,h.keys,h.vars,fun z hz=>?_,fun z hz w hw=>?_⟩,.inl ⟨rfl,by rw [hA,qz8];show wtU s (l.zip m) < _;omega,by show wtU s (l.zip m)≤_;omega⟩⟩
   ·rcases List.mem_append.1 hz with hz | hz
    ·obtain ⟨q1,q2⟩:=q0j hz
     exact ⟨qi6 (t:=.mk c x l) h1 q1,qi6 (t:=.mk c y m) h2 q2⟩
    ·exact h.leg z (by simp [hz])
   ·rcases List.mem_append.1 hz with hz | hz
    ·obtain ⟨q1,q2⟩:=q0j hz
     rcases hw with hw | hw
     ·exact qin h ha (fun w hw=>h.stk (a,b) (by simp) w (.inl hw)) (by rw [hA];exact qmi (qio q1 hw))
     ·exact qin h hb (fun w hw=>h.stk (a,b) (by simp) w (.inr hw)) (by rw [hB];exact qmi (qio q2 hw))
    ·exact h.stk z (by simp [hz]) w hw
 | limit=>cases he
 | heads=>cases he
 | occurs=>cases he
theorem qs4:∀ (l m:List Int),l.Nodup->(∀ x∈l,x∈m)->l.length≤m.length
 | [],m,_,_=>Nat.zero_le _
 | x :: l, m, hn, h => by
   rw [List.nodup_cons] at hn
   have hx:=h x (by simp)
   have:=qs4 l (m.erase x) hn.2 fun y hy=>(List.mem_erase_of_ne (by intro e;subst e;exact hn.1 hy)).2 (h y (by simp [hy]))
   rw [List.length_erase_of_mem hx] at this
   have:=List.length_pos_of_mem hx
   rw [List.length_cons];omega
theorem Inv.len {V:List Int} {s:List Pr} {st:List (Ty×Ty)} (h:Inv V s st):s.length≤V.length:=by
 have:=qs4 (s.map Pr.v) V (qog h.ok.1) fun v hv=>by
  obtain ⟨p,hp,rfl⟩:=List.mem_map.1 hv
  exact h.keys p hp
 rwa [List.length_map] at this
/-! what is told makes them one -/
theorem qbcv {f:Int->Ty} {v:Int} {t:Ty} (h:f v = subF f t):abs f [⟨v,t⟩]:=fun x=>by
 by_cases hx:v = x
 ·rw [funR,qvu,if_pos hx,← hx,h];rfl
 ·rw [funR,qvu,if_neg hx,Option.getD_none,subF,if_pos rfl]
theorem q32 {V:List Int} {f:Int->Ty} {s:List Pr} (hs:okS s) {v:Int} {t:Ty} (ht:qf t = true) (hn:qn v s = none) (he:(behR s [⟨v,t⟩]).2 = 0) (h:abs f (behR s [⟨v,t⟩]).1):abs f s∧f v = subF f t:=by
 have hf:=q6g hs ht hn he
 have hv:f v = subF f t:=by
  have:=h v
  rw [hf v,hn] at this
  simp only [if_true] at this
  exact this.symm
 refine ⟨fun x=>?_,hv⟩
 cases hl:qn x s with
 | none=>rw [qdj hl,subF,if_pos rfl]
 | some u =>
   have:=h x
   rw [hf x,hl] at this
   simp only at this
   rw [funR,hl,Option.getD_some,← qqg (qbcv hv) (qbv (qse hs hl))]
   exact this
theorem q4o {s:List Pr} (hs:okS s) (h:sep s):abs (funR s) s:=fun v=>by
 cases hl:qn v s with
 | none=>rw [qdj hl,subF,if_pos rfl,qdj hl]
 | some u =>
   have hu:funR s v = u:=by rw [funR,hl];rfl
   rw [hu]
   obtain ⟨p,hp,rfl,rfl⟩:=qed hl
   exact qr2 _ _ (qbv (hs.2 p hp)) fun w hw=>qdj (h p hp w hw)
theorem qw3 (f:Int->Ty) (v:Int):subF f (.mk [] v []) = f v:=by rw [subF,if_pos rfl]
theorem qr7 {f:Int->Ty}:∀ (l m:List Ty),l.length = m.length->((∀ x∈l.zip m,subF f x.1 = subF f x.2) ↔ qc0 f l = qc0 f m)
 | [],[],_=>by simp [qc0]
 | [],y :: m,h=>by simp at h
 | x :: l,[],h=>by simp at h
 | x :: l, y :: m, h => by
   rw [qc0,qc0,List.cons.injEq,← qr7 l m (by simpa using h),List.zip_cons_cons]
   simp only [List.mem_cons,forall_eq_or_imp]
theorem qyt (f:Int->Ty) {t:Ty} (h:t.con≠[]):subF f t = .mk t.con t.var (qc0 f t.args):=by
 cases t with
 | mk c v l =>
   have h':c≠[]:=h
   rw [subF,if_neg h'];rfl
theorem qk8 {V:List Int}:∀ (n:Nat) (s:List Pr) (st:List (Ty×Ty)) (r:List Pr×Int),Inv V s st->slvU n s st = some r->r.2 = 0 →
 Inv V r.1 []∧abs (funR r.1) s∧∀ x∈st,subF (funR r.1) x.1 = subF (funR r.1) x.2
 | n, s, [], r, h, hr, he => by
   rw [qil] at hr
   simp only [Option.some.injEq] at hr
   subst hr
   exact ⟨h,q4o h.ok h.sep,fun x hx=>by simp at hx⟩
 | 0,s,x :: st,r,h,hr,he=>by simp [slvU] at hr
 | n + 1, s, (a, b) :: st, r, h, hr, he => by
   rw [slvU] at hr
   dsimp only at hr
   by_cases e0:(stpU s a b).1.2 = 0
   case neg =>
    rw [if_neg e0] at hr
    simp only [Option.some.injEq] at hr
    subst hr
    exact absurd he e0
   rw [if_pos e0] at hr
   have hc:=qn1 h
   obtain ⟨h1,_⟩:=qmt h hc e0
   obtain ⟨q1,q2,q3⟩:=qk8 n _ _ r h1 hr he
   have hba:=qbv (h.leg (a,b) (by simp)).1
   have hbb:=qbv (h.leg (a,b) (by simp)).2
   generalize stpU s a b = q at hc e0 h1 q2 q3 hr
   have fin:abs (funR r.1) s->subF (funR r.1) (putY s a) = subF (funR r.1) (putY s b)->(∀ x∈st,subF (funR r.1) x.1 = subF (funR r.1) x.2)->Inv V r.1 []∧abs (funR r.1) s∧∀ x∈(a,b) :: st,subF (funR r.1) x.1 = subF (funR r.1) x.2:=fun k1 k2 k3=>by
    refine ⟨q1,k1,fun x hx=>?_⟩
    rcases List.mem_cons.1 hx with rfl | hx
    ·rwa [qqg k1 hba,qqg k1 hbb] at k2
    ·exact k3 x hx
   cases hc with
   | same hh=>exact fin q2 (by rw [hh]) fun x hx=>q3 x (by simp [hx])
   | bind v t hp ht hv hn hV hf ho he' =>
     obtain ⟨k1,k2⟩:=q32 (V:=V) h.ok ht hn he' q2
     refine fin k1 ?_ fun x hx=>q3 x (by simpa using hx)
     rcases hp with ⟨p1,p2⟩ | ⟨p1,p2⟩
     ·rw [p1,p2,qw3,k2]
     ·rw [p1,p2,qw3,k2]
   | args c x y l m hA hB hc' hl g1 g2 =>
     refine fin q2 ?_ fun x hx=>q3 x (by simp [hx])
     have hx0:=qs6 ((qs _).1 g1).2.2 hc'
     have hy0:=qs6 ((qs _).1 g2).2.2 hc'
     rw [hA,hB,qyt _ (t:=.mk c x l) hc',qyt _ (t:=.mk c y m) hc']
     refine ty_eq.2 ⟨⟨rfl,hx0.trans hy0.symm⟩,?_⟩
     exact (qr7 l m hl).1 fun z hz=>q3 z (by simp [hz])
   | limit=>cases e0
   | heads=>cases e0
   | occurs=>cases e0
/-! how much may lie on the stack -/
def Bd (k:Nat) (s:List Pr) (st:List (Ty×Ty)):Prop:=∃ P O,st = P ++ O∧wtU s P≤4096∧O.length≤k + 4097 * s.length
theorem qbm0 {V:List Int} {k:Nat} {s:List Pr} {a b:Ty} {st:List (Ty×Ty)} (h:Inv V s ((a,b) :: st)) (hb:Bd k s ((a,b) :: st)) {q:(List Pr×Int)×List (Ty×Ty)} (hq:StepU V s a b q) (he:q.1.2 = 0):Bd k q.1.1 (q.2 ++ st):=by
 obtain ⟨P,O,e,h1,h2⟩:=hb
 obtain ⟨_,h3⟩:=qmt h hq he
 cases P with
 | nil =>
   rw [List.nil_append] at e
   subst e
   rw [List.length_cons] at h2
   rcases h3 with ⟨e1,_,h3⟩ | ⟨e1,h3⟩
   ·rw [e1];exact ⟨q.2,st,rfl,h3,by omega⟩
   ·rw [e1];exact ⟨[],st,rfl,by simp [wtU],by rw [h3];omega⟩
 | cons x P =>
   rw [List.cons_append,List.cons.injEq] at e
   obtain ⟨rfl,rfl⟩:=e
   rw [wtU] at h1
   rcases h3 with ⟨e1,h4,h3⟩ | ⟨e1,h3⟩
   ·rw [e1];exact ⟨q.2 ++ P,O,by rw [List.append_assoc],by rw [qxa];dsimp only at h1;omega,h2⟩
   ·have:=qrj s P
    rw [e1];exact ⟨[],P ++ O,rfl,by simp [wtU],by rw [h3,List.length_append];omega⟩
theorem qbrr {k:Nat} {s:List Pr} {st:List (Ty×Ty)} (h:Bd k s st):st.length≤4096 + k + 4097 * s.length:=by
 obtain ⟨P,O,rfl,h1,h2⟩:=h
 have:=qrj s P
 rw [List.length_append];omega
set_option maxRecDepth 4000

def hasN (v:Int) (t:Ty):Bool:=decide (t.con = []) && decide (t.var = v)
def qwe (v:Int) (u:Unit) (t:Ty) (_:Int):Unit×Bool:=(u,!hasN v t)
theorem has1 (v:Int) (t:Ty) (k:Int):VM Tryz.prog 243 (.blk [.int .i64 v]) (.blk [.int .i64 v]) [encY t,.int .i64 k,.ptr 0 0] (.bool (!hasN v t)):=by
 refine qc c0dt 1 (by simp) (by simp) ?_
 repeat' (first | refine vs_ ?_ | ((first | refine vr_ ?_ | (refine cs_ ?_ ?_<;>intro hc) | refine cj_ ?_ | fail)<;>(try refine ev_ ?_)) | with_reducible exact ti_)
 all_goals simp_all [hasN]
mutual
theorem qbsg (v:Int):∀ (t:Ty) (k:Int),(qcf (qwe v) t () k).2 = !decide (v∈varY t)
 | .mk c x l, k => by
   rw [qcf,varY]
   by_cases hc:c = []
   ·by_cases hx:x = v
    ·rw [if_neg (by simp [qwe,hasN,Ty.con,Ty.var,hc,hx])];simp [hc,hx]
    ·rw [if_pos (by simp [qwe,hasN,Ty.con,Ty.var,hc,hx]),qzx v l];simp [hc,Ne.symm hx]
   ·rw [if_pos (by simp [qwe,hasN,Ty.con,hc]),qzx v l];simp [hc]
theorem qzx (v:Int):∀ (l:List Ty) (u:Unit) (k:Int),(qbr (qwe v) l u k).2 = !decide (v∈qc8 l)
 | [],u,k=>by rw [qbr,qc8];simp
 | x :: r, u, k => by
   have h1:=qbsg v x k
   rw [qbr,qc8]
   cases u
   by_cases hv:v∈varY x
   ·rw [if_neg (by rw [h1];simp [hv])];simp [hv]
   ·rw [if_pos (by rw [h1];simp [hv]),qzx v r];simp [hv]
end
theorem qpy (t:Ty) (v:Int):qi Tryz.prog 233 [encY t,.int .i64 v] (.bool (decide (v∈varY t))):=by
 refine qd c0du (by simp) (by simp only [go_sem]) rfl fun hw=>?_
 have hwalk:=qle (S:=Unit) (st:=fun _=>.blk [.int .i64 v]) (step:=qwe v) (f:=243) (ok:=fun _ _=>True) (fun _=>rfl) (fun _ _ _ _ _=>trivial) (fun _ _ _=>trivial) (fun u t k _=>has1 v t k) t () 1 trivial
 rw [qbsg] at hwalk
 repeat' (first | refine vs_ ?_ | ((first | refine vr_ ?_ | refine qbl 1 hwalk ?_ | (refine cs_ ?_ ?_<;>intro hc) | refine cj_ ?_ | fail)<;>(try refine ev_ ?_)) | with_reducible exact ti_)
 rw [Bool.not_not]

/-! functions' types -/
section
variable {S:Type} {l:List Ty} {m i p:Nat} {hs:S->List Ent} {f:Ty->S->S} (hlen:∀ s,(hs s).length = m) (hbd:∀ s,(hs s).all (Ent.bd m) = true) (hi:i < m) (hpm:p < m) (hp:∀ s,ent (hs s) p = .blk [.sl 3 (qj l)])
 (app:∀ s k n (Q:List Ent->VO->Prop),Q (hs (f n s)) (.val (.bool true))->VApp Tryz.prog (hs s) (.opq i) [.int .i64 k,encY n] Q)
include hlen hbd hi hpm hp app
end
/-! what is split -/

set_option maxRecDepth 4000

set_option maxRecDepth 4000

end Go.Proofs.YtkenggenkmfopaaGreat
