/- Texts of this proof, joined. -/
import Derived.Test.YtlmcofjcpadmiaaGreatNax
import Derived.Test.YtlmcofjcpadmiaaGreatNas
import Derived.Test.YtlmcofjcpadmiaaGreatNau
import Derived.Test.YtlmcofjcpadmiaaGreatNan
import Derived.Test.YtlmcofjcpadmiaaGreatNbr
import Derived.Test.YtlmcofjcpadmiaaGreatNbs
import Derived.Test.YtlmcofjcpadmiaaGreatNbn
import Derived.Test.YtlmcofjcpadmiaaGreatNbl
set_option linter.unusedVariables false
set_option linter.unusedSimpArgs false

/- rows of texts -/
namespace Go.Proofs.YtlmcofjcpadmiaaGreat
open Go Go.RowKit Go.V
theorem bifT {α:Type} (a b:α):(bif true then a else b) = a:=Eq.trans rfl rfl
theorem bifF {α:Type} (a b:α):(bif false then a else b) = b:=Eq.trans rfl rfl
attribute [go_sem] bifT bifF



end Go.Proofs.YtlmcofjcpadmiaaGreat

/- declarations: the reference: what is read (plain) -/
namespace Go.Proofs.YtlmcofjcpadmiaaGreat
open Go Go.RowKit Go.V
set_option linter.unusedSectionVars false

def qfi (c:K):K×N:=qeg (qej (rest c + 2)) c
def qif (c:K):K×N:=qg8 (qnm (rest c + 2)) c
def qli (c:K):K×List N:=qid (qej (rest c + 2)) c
def qkr (p:K->Bool):Nat->K->List N->K×List N
 | 0,c,acc=>(c,acc)
 | f + 1,c,acc=>if p c = true then qkr p f (qfi c).1 (acc ++ [(qfi c).2]) else (c,acc)
def q29 (t:T) (r:K×List N):K×N:=(r.1,conN t r.2)
def qj8 (c:K):K×N:=q29 (qen c 2) (qkr begT (em (kindK c 2).1 + 1) (kindK c 2).1 [])
def qo0:Nat->K->List N->K×List N
 | 0,c,acc=>(c,acc)
 | f + 1,c,acc=>if (qf (qj8 c).1 [124]).2 = true then qo0 f (qf (qj8 c).1 [124]).1 (acc ++ [(qj8 c).2]) else ((qf (qj8 c).1 [124]).1,acc ++ [(qj8 c).2])
def q4y (p:Int) (t:T) (v:List N) (r:K×List N):K×N:=(r.1,qp2 p t v r.2)
def q5b (p:Int) (t:T) (v:K×List N):K×N:=q4y p t v.2 (qo0 (em (qh v.1 [61]).1 + 2) (qh v.1 [61]).1 v.2)
def qv9 (p:Int) (c:K):K×N:=q5b p (qen c 2) (qkr qdj (em (kindK c 2).1 + 1) (kindK c 2).1 [])
def qhh (kd:Int) (c:K):K×N:=(if (qif c).1.err = 0∧(qif c).2.kind≠kd then qd9 (qif c).1 5 else (qif c).1,(qif c).2)
def qxp (kd:Int):Nat->K->List N->K×List N
 | 0,c,acc=>(c,acc)
 | f + 1,c,acc=>if (qhr (qhh kd c).1).2 = true then qxp kd f (qhr (qhh kd c).1).1 (acc ++ [(qhh kd c).2]) else ((qhr (qhh kd c).1).1,acc ++ [(qhh kd c).2])
def qwt (r:K×List N):K×List N:=((qh r.1 [125]).1,r.2)
def qws (kd:Int) (c:K):K×List N:=if (decide (c.err = 0) && !isK c [125]) = true then qxp kd (em c + 2) c [] else (c,[])
def qm8 (kd:Int) (c:K):K×List N:=qwt (qws kd (qh (qh c [119,104,101,114,101]).1 [123]).1)
def qfg (k:Int) (c:K):K×N:=if k = 35 then ((kindK c 1).1,.mk 1 (qen c 1).pos 0 (qen c 1).text []) else qfi c
def q4s (k p:Int) (t:T) (v:List N) (n:N) (b:K×List N):K×N:=(b.1,qi1 k p t v (v ++ [n] ++ b.2))
def q4i (k p:Int) (t:T) (v:List N) (a:K×N):K×N:=q4s k p t v a.2 (qm8 (if k = 35 then 32 else 31) a.1)
def qqi (k p:Int) (c:K):K×N:=q4i k p (qen (qli c).1 2) (qli c).2 (qfg k (kindK (qli c).1 2).1)
def qju (c:K):K×N :=
 if (qf c qoz).2 = true then qv9 (qp c).pos (qf c qoz).1
 else if (qf c qi2).2 = true then qqi 35 (qp c).pos (qf c qi2).1
 else if (qf c qoj).2 = true then qqi 36 (qp c).pos (qf c qoj).1
 else qif c
def ql8 (c:K):K×Bool:=((qf c [59]).1,(qf c [59]).2 && decide ((qf c [59]).1.err = 0) && decide (0 < rest (qf c [59]).1))
def qq0:Nat->K->List N->K×List N
 | 0,c,acc=>(c,acc)
 | f + 1,c,acc=>if (ql8 (qju c).1).2 = true then qq0 f (ql8 (qju c).1).1 (acc ++ [(qju c).2]) else ((ql8 (qju c).1).1,acc ++ [(qju c).2])
def qp7 (c:K):K×List N:=if 0 < rest c then qq0 (em c + 2) c [] else (c,[])
def qbni (c:K):K×N:=((qp7 c).1,quk (qp7 c).2)

theorem qwv {c:K} (h:begT c = true):em (qfi c).1 < em c:=qnl (qea _) h
theorem q1g {c:K} (h:qdj c = true):begT c = true:=by
 simp only [qdj,decide_eq_true_eq] at h
 simp [begT,h]
theorem qyw (c:K):Mon c (ql8 c).1:=qm c _
theorem qbmi {c:K} (h:(ql8 c).2 = true):em (ql8 c).1 < em c:=by
 unfold ql8 at h ⊢
 simp only [Bool.and_eq_true] at h
 exact qil h.1.1
end Go.Proofs.YtlmcofjcpadmiaaGreat

/- declarations: the reference: constructors, data -/
namespace Go.Proofs.YtlmcofjcpadmiaaGreat
open Go Go.RowKit Go.V




end Go.Proofs.YtlmcofjcpadmiaaGreat

/- declarations: both read alike -/
namespace Go.Proofs.YtlmcofjcpadmiaaGreat
open Go Go.RowKit Go.V
set_option linter.unusedSectionVars false

theorem noBd:¬ (false = true):=by decide
theorem qth (c:K):qdz (qd8 c) (qfi c):=qjg (fun c h=>by rw [qiv _ h]) (qk1 (rest c + 2)) (by have:=q04 c;omega)
theorem q0c {c:K} (hn:NoEnd c):qdz (qct c) (qli c):=qte (fun c h=>by rw [qiv _ h]) (qk1 (rest c + 2)) (qbv _) (qea _) hn (by have:=q04 c;omega)
theorem qst {c:K} (hn:NoEnd c):qdz (qgj c) (qif c):=qsz (fun c h=>qvd _ h) (q1m (rest c + 2)) hn (by have:=q04 c;omega)
theorem q1j {c:K} (h:c.err≠0):(qfi c).1 = c:=by unfold qfi qeg;rw [if_neg h]
theorem qkb {p:K->Bool} (hp:∀ c,p c = true->begT c = true) {c:K} (h:c.err≠0) (g:Nat) (acc:List N):qkr p g c acc = (c,acc):=by
 cases g with
 | zero=>rfl
 | succ g =>
   rw [qkr,if_neg]
   intro q
   have:=hp c q
   rw [qbfb h] at this;cases this
def AlL (out:List N) (p:RL) (r:K×List N):Prop:=p.1 = r.1∧(p.2.2 = true->p.2.1 = out ++ r.2)∧(p.2.2 = false->p.1.err≠0)
def AlR (p:R3) (r:K×N):Prop:=p.1 = r.1∧(p.2.2 = true->p.2.1 = r.2)∧(p.2.2 = false->p.1.err≠0)
theorem qbps {p:K×Option N} {r:K×N} (h:qdz p r):AlR (ofO p) r:=by
 refine ⟨h.1,fun q=>?_,fun q=>?_⟩
 ·exact qio h q
 ·exact qir h (by intro e;have:(ofO p).2.2 = true:=e;rw [this] at q;cases q)
theorem q4m {p:K->Bool} (hp:∀ c,p c = true->begT c = true):∀ (f g:Nat) (b:Bool) (c:K) (acc:List N),rest c < f->em c < g->AlL [] (rowF qb5 (qdl p) f b c acc).2 (qkr p g c acc)
 | 0,_,_,_,_,h,_=>absurd h (by omega)
 | _,0,_,_,_,_,h=>absurd h (by omega)
 | f + 1, g + 1, b, c, acc, hf, hg => by
   rw [rowF,qkr]
   cases ha:p c with
   | false =>
     rw [if_neg (show ¬ (qdl p b c).2.2 = true by show ¬ p c = true;rw [ha];exact noBd),if_neg noBd]
     exact ⟨rfl,fun _=>by rw [List.nil_append],fun h=>by cases h⟩
   | true =>
     rw [if_pos (show (qdl p b c).2.2 = true from ha),if_pos rfl]
     have hal:=qbps (qth c)
     have h5:=qwv (hp c ha)
     cases ho:(qb5 c).2.2 with
     | true =>
       rw [if_pos (show (qb5 (qdl p b c).2.1).2.2 = true from ho)]
       have h1:=goes_atom.l c ho
       have e1:(qb5 c).1 = (qfi c).1:=hal.1
       have e2:(qb5 c).2.1 = (qfi c).2:=hal.2.1 ho
       show AlL [] (rowF qb5 (qdl p) f b (qb5 c).1 (acc ++ [(qb5 c).2.1])).2 _
       rw [← e1,← e2]
       rw [← e1] at h5
       exact q4m hp f g b _ _ (by omega) (by omega)
     | false =>
       rw [if_neg (show ¬ (qb5 (qdl p b c).2.1).2.2 = true by show ¬ (qb5 c).2.2 = true;rw [ho];exact noBd)]
       have h3:(qb5 c).1.err≠0:=hal.2.2 ho
       have e1:(qb5 c).1 = (qfi c).1:=hal.1
       rw [qkb hp (by rw [← e1];exact h3)]
       exact ⟨e1,(fun h=>by cases h),fun _=>h3⟩
theorem qzr {p:K->Bool} (hp:∀ c,p c = true->begT c = true) (c:K):AlL [] (rowS qb5 (qdl p) false c []).2 (qkr p (em c + 1) c []):=q4m hp _ _ _ _ _ (Nat.lt_succ_self _) (Nat.lt_succ_self _)
theorem qbw1 (c:K):AlR (conK c) (qj8 c):=by
 unfold conK qj8 q29
 have h:=qzr (p:=begT) (fun _ h=>h) (kindK c 2).1
 cases hk:(kindK c 2).2 with
 | true =>
   rw [if_pos rfl]
   refine ⟨h.1,fun q=>?_,h.2.2⟩
   have:=h.2.1 q
   rw [List.nil_append] at this
   simp only;rw [this]
 | false =>
   rw [if_neg noBd]
   have h3:=qnt hk
   rw [qkb (fun _ h=>h) h3]
   exact ⟨rfl,(fun q=>by cases q),fun _=>h3⟩
theorem q9v {one:K->R3} {x:List UInt8} (f:Nat) (c:K) (acc:List N):rowF one (qbh x) (f + 1) true c acc = if (qf c x).2 = true then rowF one (qbh x) (f + 1) false (qf c x).1 acc else (true,(qf c x).1,acc,true):=by
 rw [rowF,rowF]
 have h1:qbh x true c = (true,(qf c x).1,(qf c x).2):=if_pos rfl
 have h2:qbh x false (qf c x).1 = (true,(qf c x).1,true):=rfl
 rw [h1,h2]
 cases (qf c x).2 with
 | true=>rfl
 | false=>rfl
theorem all_cons:∀ (f g:Nat) (c:K) (acc:List N),rest c < f->em c < g->AlL [] (rowF conK (qbh [124]) f false c acc).2 (qo0 g c acc)
 | 0,_,_,_,h,_=>absurd h (by omega)
 | _,0,_,_,_,h=>absurd h (by omega)
 | f + 1, g + 1, c, acc, hf, hg => by
   rw [rowF,qo0]
   rw [if_pos (show (qbh [124] false c).2.2 = true from rfl)]
   show AlL [] (if (conK c).2.2 = true then rowF conK (qbh [124]) f true (conK c).1 (acc ++ [(conK c).2.1]) else (true,(conK c).1,acc,false)).2 _
   have hal:=qbw1 c
   cases ho:(conK c).2.2 with
   | false =>
     rw [if_neg noBd]
     have h3:=hal.2.2 ho
     have e1:=hal.1
     rw [← e1,qer h3,if_neg noBd]
     exact ⟨rfl,(fun q=>by cases q),fun _=>h3⟩
   | true =>
     rw [if_pos rfl]
     have e1:=hal.1
     have e2:=hal.2.1 ho
     have h1:=goes_con.l c ho
     have h2:=(goes_con.m c).em
     rw [← e1,← e2]
     obtain ⟨f,rfl⟩:∃ k,f = k + 1:=⟨f - 1,by omega⟩
     rw [q9v]
     cases ht:(qf (conK c).1 [124]).2 with
     | true =>
       rw [if_pos rfl,if_pos rfl]
       have h4:=qcv ht
       have h5:=qil ht
       exact all_cons (f + 1) g _ _ (by omega) (by omega)
     | false =>
       rw [if_neg noBd,if_neg noBd]
       exact ⟨rfl,fun _=>by rw [List.nil_append],fun q=>by cases q⟩
theorem qs8 {c:K} (h:c.err≠0):∀ (g:Nat) (acc:List N),(qo0 g c acc).1 = c
 | 0,_=>rfl
 | g + 1, acc => by
   have h1:(qj8 c).1 = c:=by
    unfold qj8 q29
    rw [qko h,qkb (fun _ h=>h) h]
   rw [qo0,h1,qer h,if_neg noBd]
theorem qbg6 (p:Int) (c:K):AlR (qi0 p c) (qv9 p c):=by
 unfold qi0 qv9 qy2 q5b qxw q4y
 have h:=qzr (p:=qdj) (fun _ h=>q1g h) (kindK c 2).1
 cases hk:(kindK c 2).2 with
 | false =>
   rw [if_neg noBd]
   have h3:=qnt hk
   rw [qkb (fun _ h=>q1g h) h3,qbr h3]
   exact ⟨(qs8 h3 _ _).symm,(fun q=>by cases q),fun _=>h3⟩
 | true =>
   rw [if_pos rfl]
   have e1:=h.1
   have hv:(rowS qb5 (qdl qdj) false (kindK c 2).1 []).2.2.2 = true:=qw1 _ _ _ _ (Nat.lt_succ_self _)
   have e2:=h.2.1 hv
   rw [List.nil_append] at e2
   rw [← e1,← e2]
   generalize rowS qb5 (qdl qdj) false (kindK c 2).1 [] = r at *
   cases hw:(qh r.2.1 [61]).2 with
   | false =>
     rw [if_neg noBd]
     have h3:=qdk hw
     exact ⟨(qs8 h3 _ _).symm,(fun q=>by cases q),fun _=>h3⟩
   | true =>
     rw [if_pos rfl]
     have hc:=all_cons (rest (qh r.2.1 [61]).1 + 1) (em (qh r.2.1 [61]).1 + 2) (qh r.2.1 [61]).1 r.2.2.1 (Nat.lt_succ_self _) (by omega)
     refine ⟨hc.1,fun q=>?_,hc.2.2⟩
     have:=hc.2.1 q
     rw [List.nil_append] at this
     exact congrArg (qp2 p (qen c 2) r.2.2.1) this
theorem q8e (kd:Int) {c:K} (hn:NoEnd c):AlR (qv kd c) (qhh kd c):=by
 have h:=qst hn
 unfold qv qhh
 cases ho:(qgj c).2 with
 | none =>
   have h3:(qgj c).1.err≠0:=h.2.2 ho
   rw [if_neg (by simp)]
   refine ⟨?_,(fun q=>by simp only [ofO,ho] at q;cases q),fun _=>h3⟩
   rw [← h.1,if_neg (fun q=>h3 q.1)];rfl
 | some n =>
   have e2:n = (qif c).2:=h.2.1 n ho
   rw [Option.isSome_some,Option.getD_some,← e2,← h.1]
   by_cases hk:n.kind = kd
   ·rw [if_neg (fun q=>q.2 hk),if_neg (fun q=>q.2 hk)]
    exact ⟨rfl,fun _=>by simp only [ofO,ho];rfl,fun q=>by simp only [ofO,ho] at q;cases q⟩
   ·rw [if_pos ⟨rfl,hk⟩]
    by_cases he:(qgj c).1.err = 0
    ·rw [if_pos ⟨he,hk⟩]
     exact ⟨rfl,(fun q=>by cases q),fun _=>qf8 _⟩
    ·rw [if_neg (fun q=>he q.1),qfj he]
     exact ⟨rfl,(fun q=>by cases q),fun _=>he⟩
def memS (kd:Int) (f:Nat) (c:K) (acc:List N):Bool×RL:=if (qv kd c).2.2 = true then rowF (qv kd) qdy f true (qv kd c).1 (acc ++ [(qv kd c).2.1]) else (true,(qv kd c).1,acc,false)
theorem q7p (c:K):qdy true c = (true,(qhr c).1,(qhr c).2):=by
 unfold qdy qhr
 cases hi:isK c [125] with
 | true =>
   have ht:isK c [59] = false:=by
    unfold isK qcg at hi ⊢
    simp only [Bool.and_eq_true,decide_eq_true_eq] at hi
    rw [hi.2.2]
    simp
   rw [if_pos rfl,qkq ht];rfl
 | false=>rw [if_neg noBd];rfl
theorem qbnq (kd:Int) (f:Nat) (c:K) (acc:List N):rowF (qv kd) qdy (f + 1) true c acc = if (qhr c).2 = true then memS kd f (qhr c).1 acc else (true,(qhr c).1,acc,true):=by
 rw [rowF,q7p];rfl
theorem qblm {c:K} (h:c.err≠0):qhr c = (c,false):=by unfold qhr;rw [qer h];rfl
theorem q5x (kd:Int) (out:List N):∀ (f g:Nat) (c:K) (acc:List N),rest c≤f->em c < g->NoEnd c->AlL out (memS kd f c (out ++ acc)).2 (qxp kd g c acc)
 | _,0,_,_,_,h,_=>absurd h (by omega)
 | f, g + 1, c, acc, hf, hg, hn => by
   have hal:=q8e kd hn
   rw [qxp,memS]
   cases ho:(qv kd c).2.2 with
   | false =>
     rw [if_neg noBd]
     have h3:=hal.2.2 ho
     rw [← hal.1,qblm h3,if_neg noBd]
     exact ⟨rfl,(fun q=>by cases q),fun _=>h3⟩
   | true =>
     rw [if_pos rfl,← hal.1,← hal.2.1 ho]
     have h1:=(qd5 kd).l c ho
     have h2:=((qd5 kd).m c).em
     obtain ⟨f,rfl⟩:∃ k,f = k + 1:=⟨f - 1,by omega⟩
     rw [qbnq]
     cases hm:(qhr (qv kd c).1).2 with
     | false =>
       rw [if_neg noBd,if_neg noBd]
       exact ⟨rfl,fun _=>by rw [List.append_assoc],fun q=>by cases q⟩
     | true =>
       rw [if_pos rfl,if_pos rfl,List.append_assoc]
       have h4:=(qp9 (qv kd c).1).2.1
       have h5:=qbeq hm
       exact q5x kd out f g _ _ (by omega) (by omega) (hn.mon (((qd5 kd).m c).trans (qp9 _)))
theorem qbh7 (kd:Int) (c:K) (out:List N) (hn:NoEnd c):AlL out (qc1 kd c out) (qm8 kd c):=by
 unfold qc1 qm8 qwt qws
 cases h1:(qh c [119,104,101,114,101]).2 with
 | false =>
   have h3:=qdk h1
   rw [if_neg noBd,qbr h3,if_neg (by rw [decide_eq_false h3];exact noBd),qbr h3]
   exact ⟨rfl,(fun q=>by cases q),fun _=>h3⟩
 | true =>
   rw [if_pos rfl]
   cases h2:(qh (qh c [119,104,101,114,101]).1 [123]).2 with
   | false =>
     have h3:=qdk h2
     rw [if_neg noBd,if_neg (by rw [decide_eq_false h3];exact noBd),qbr h3]
     exact ⟨rfl,(fun q=>by cases q),fun _=>h3⟩
   | true =>
     rw [if_pos rfl]
     have hnd:=hn.mon ((qe c [119,104,101,114,101]).trans (qe _ [123]))
     generalize (qh (qh c [119,104,101,114,101]).1 [123]).1 = d at *
     have hE:∀ (r:RL) (r':K×List N),AlL out r r'->AlL out (qmv r) ((qh r'.1 [125]).1,r'.2):=fun r r' h=>by
      unfold qmv
      cases hr:r.2.2 with
      | true =>
        rw [if_pos rfl,← h.1]
        refine ⟨rfl,fun _=>h.2.1 hr,fun q=>qdk q⟩
      | false =>
        rw [if_neg noBd]
        have h3:=h.2.2 hr
        rw [← h.1,qbr h3]
        exact ⟨rfl,fun q=>(by rw [hr] at q;cases q),fun _=>h3⟩
     refine hE _ _ ?_
     unfold rowS
     rw [rowF]
     cases hi:isK d [125] with
     | true =>
       have hm:qdy false d = (false,d,false):=by unfold qdy;rw [if_pos hi]
       rw [hm,if_neg noBd,Bool.not_true,Bool.and_false,if_neg noBd]
       exact ⟨rfl,fun _=>by rw [List.append_nil],fun q=>by cases q⟩
     | false =>
       have hm:qdy false d = (true,d,true):=by
        unfold qdy qbh
        simp [hi]
       rw [hm,if_pos rfl]
       by_cases he:d.err = 0
       ·rw [decide_eq_true he,Bool.not_false,Bool.and_true,if_pos rfl]
        have:=q5x kd out (rest d) (em d + 2) d [] (Nat.le_refl _) (by omega) hnd
        rw [List.append_nil] at this
        exact this
       ·rw [decide_eq_false he,Bool.false_and,if_neg noBd]
        have hk:(qv kd d).2.2 = false∧(qv kd d).1 = d:=by
         have hb:qgj d = (d,none):=by unfold qgj;rw [qbm,qko he,if_neg noBd]
         unfold qv
         rw [hb,if_neg (by simp)]
         exact ⟨rfl,rfl⟩
        rw [hk.1,if_neg noBd]
        exact ⟨hk.2,(fun q=>by cases q),fun _=>by show (qv kd d).1.err≠0;rw [hk.2];exact he⟩
theorem qh3 {kd:Int} {c:K} (h:c.err≠0):(qm8 kd c).1 = c:=by
 unfold qm8 qwt qws
 rw [qbr h]
 simp only
 rw [qbr h]
 simp only
 rw [if_neg (by rw [decide_eq_false h];exact noBd),qbr h]
theorem qpi {k:Int} {c:K} (h:c.err≠0):(qfg k c).1 = c:=by
 unfold qfg
 split
 ·rw [qko h]
 ·exact q1j h
theorem qbgr {c:K} {k:Int} (h:(qp c).kind≠k):(kindK c k).1 = qd9 c 5:=by
 unfold kindK
 split
 ·rename_i q
  simp only [Bool.and_eq_true,decide_eq_true_eq] at q
  exact absurd q.2 h
 ·rfl
theorem q5w (k p:Int) {c:K} (hn:NoEnd c):AlR (qik k p c) (qqi k p c):=by
 have hP:=q0c hn
 unfold qik qqi q4i q4s
 cases h1:(qct c).2 with
 | none =>
   have h3:(qct c).1.err≠0:=hP.2.2 h1
   rw [Option.isSome_none,if_neg noBd,← hP.1,qko h3]
   refine ⟨?_,(fun q=>by cases q),fun _=>h3⟩
   simp only
   rw [qpi h3,qh3 h3]
 | some v =>
   have e2:v = (qli c).2:=hP.2.1 v h1
   have hnp:=hn.mon (qf2 c)
   rw [Option.isSome_some,if_pos rfl,Option.getD_some,← e2,← hP.1]
   unfold qyo
   cases h2:(kindK (qct c).1 2).2 with
   | false =>
     have h3:=qnt h2
     rw [if_neg noBd]
     refine ⟨?_,(fun q=>by cases q),fun _=>h3⟩
     simp only
     rw [qpi h3,qh3 h3]
   | true =>
     rw [if_pos rfl]
     have hnk:=hnp.mon (qbp (qct c).1 2)
     generalize (kindK (qct c).1 2).1 = d at *
     unfold qxa
     by_cases h3:k = 35∧(qp d).kind≠1
     ·rw [if_pos h3]
      have e3:(qfg k d).1 = qd9 d 5:=by unfold qfg;rw [if_pos h3.1];exact qbgr h3.2
      refine ⟨?_,(fun q=>by cases q),fun _=>qf8 d⟩
      simp only
      rw [e3,qh3 (qf8 d)]
     ·rw [if_neg h3]
      have hA:qdz (qd8 d) (qfg k d):=by
       by_cases h5:k = 35
       ·have hk:(qp d).kind = 1:=by
         by_cases hq:(qp d).kind = 1
         ·exact hq
         ·exact absurd ⟨h5,hq⟩ h3
        have he:d.err = 0:=(qfa (by rw [hk];decide)).1
        have ha:qd8 d = (qg d,some (qgr d 1 [])):=by unfold qd8;rw [qbg,if_pos hk]
        have hb:qfg k d = (qg d,qgr d 1 []):=by
         unfold qfg
         rw [if_pos h5,qs3 he hk,qx7 he hk];rfl
        rw [ha,hb]
        exact ⟨rfl,fun n h=>by cases h;rfl,fun h=>by cases h⟩
       ·have:qfg k d = qfi d:=by unfold qfg;rw [if_neg h5]
        rw [this];exact qth d
      unfold qyf
      have hna:=hnk.mon (qhj d)
      cases ha:(qd8 d).2 with
      | none =>
        have h4:(qd8 d).1.err≠0:=hA.2.2 ha
        rw [Option.isSome_none,if_neg noBd]
        refine ⟨?_,(fun q=>by cases q),fun _=>h4⟩
        simp only
        rw [← hA.1,qh3 h4]
      | some a =>
        have e4:a = (qfg k d).2:=hA.2.1 a ha
        rw [Option.isSome_some,if_pos rfl,Option.getD_some,← hA.1,← e4]
        have hB:=qbh7 (if k = 35 then 32 else 31) (qd8 d).1 (v ++ [a]) hna
        refine ⟨hB.1,fun q=>?_,hB.2.2⟩
        exact congrArg (qi1 k p (qen (qct c).1 2) v) (hB.2.1 q)
theorem qbhu {c:K} (hn:NoEnd c):AlR (qcr c) (qju c):=by
 unfold qcr qju
 split
 ·exact qbg6 _ _
 ·split
  ·exact q5w _ _ (hn.mon (qm _ _))
  ·split
   ·exact q5w _ _ (hn.mon (qm _ _))
   ·exact qbps (qst hn)
end Go.Proofs.YtlmcofjcpadmiaaGreat
