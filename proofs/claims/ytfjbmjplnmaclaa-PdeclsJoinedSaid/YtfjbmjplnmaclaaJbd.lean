/- Texts of this proof, joined. -/
import Derived.Test.YtfjbmjplnmaclaaJau
import Derived.Test.YtfjbmjplnmaclaaJao
import Derived.Test.YtfjbmjplnmaclaaJaq
import Derived.Test.YtfjbmjplnmaclaaJan
import Derived.Test.YtfjbmjplnmaclaaJbb
import Derived.Test.YtfjbmjplnmaclaaJbc
import Derived.Test.YtfjbmjplnmaclaaJaz
set_option linter.unusedVariables false
set_option linter.unusedSimpArgs false

/- rows of texts -/
namespace Go.Proofs.Ytfjbmjplnmaclaa
open Go Go.RowKit Go.V
theorem bifT {α:Type} (a b:α):(bif true then a else b) = a:=Eq.trans rfl rfl
theorem bifF {α:Type} (a b:α):(bif false then a else b) = b:=Eq.trans rfl rfl
attribute [go_sem] bifT bifF



end Go.Proofs.Ytfjbmjplnmaclaa

/- declarations: the reference: what is read (plain) -/
namespace Go.Proofs.Ytfjbmjplnmaclaa
open Go Go.RowKit Go.V
set_option linter.unusedSectionVars false

def qes (c:K):K×N:=qdu (qd1 (rest c + 2)) c
def qg0 (c:K):K×N:=qf4 (qk0 (rest c + 2)) c
def qjj (c:K):K×List N:=qg5 (qd1 (rest c + 2)) c
def qi6 (p:K->Bool):Nat->K->List N->K×List N
 | 0,c,acc=>(c,acc)
 | f + 1,c,acc=>if p c = true then qi6 p f (qes c).1 (acc ++ [(qes c).2]) else (c,acc)
def qya (t:T) (r:K×List N):K×N:=(r.1,conN t r.2)
def qic (c:K):K×N:=qya (qex c 2) (qi6 begT (em (kindK c 2).1 + 1) (kindK c 2).1 [])
def ql7:Nat->K->List N->K×List N
 | 0,c,acc=>(c,acc)
 | f + 1,c,acc=>if (qd (qic c).1 [124]).2 = true then ql7 f (qd (qic c).1 [124]).1 (acc ++ [(qic c).2]) else ((qd (qic c).1 [124]).1,acc ++ [(qic c).2])
def qzs (p:Int) (t:T) (v:List N) (r:K×List N):K×N:=(r.1,qwp p t v r.2)
def qzr (p:Int) (t:T) (v:K×List N):K×N:=qzs p t v.2 (ql7 (em (qc v.1 [61]).1 + 2) (qc v.1 [61]).1 v.2)
def qtf (p:Int) (c:K):K×N:=qzr p (qex c 2) (qi6 qek (em (kindK c 2).1 + 1) (kindK c 2).1 [])
def qgg (kd:Int) (c:K):K×N:=(if (qg0 c).1.err = 0∧(qg0 c).2.kind≠kd then qdy (qg0 c).1 5 else (qg0 c).1,(qg0 c).2)
def qtb (kd:Int):Nat->K->List N->K×List N
 | 0,c,acc=>(c,acc)
 | f + 1,c,acc=>if (qgi (qgg kd c).1).2 = true then qtb kd f (qgi (qgg kd c).1).1 (acc ++ [(qgg kd c).2]) else ((qgi (qgg kd c).1).1,acc ++ [(qgg kd c).2])
def qsi (r:K×List N):K×List N:=((qc r.1 [125]).1,r.2)
def qsk (kd:Int) (c:K):K×List N:=if (decide (c.err = 0) && !isK c [125]) = true then qtb kd (em c + 2) c [] else (c,[])
def qlg (kd:Int) (c:K):K×List N:=qsi (qsk kd (qc (qc c [119,104,101,114,101]).1 [123]).1)
def qen (k:Int) (c:K):K×N:=if k = 35 then ((kindK c 1).1,.mk 1 (qex c 1).pos 0 (qex c 1).text []) else qes c
def q0y (k p:Int) (t:T) (v:List N) (n:N) (b:K×List N):K×N:=(b.1,qme k p t v (v ++ [n] ++ b.2))
def qzc (k p:Int) (t:T) (v:List N) (a:K×N):K×N:=q0y k p t v a.2 (qlg (if k = 35 then 32 else 31) a.1)
def qn9 (k p:Int) (c:K):K×N:=qzc k p (qex (qjj c).1 2) (qjj c).2 (qen k (kindK (qjj c).1 2).1)
def q0k (c:K):K×N :=
 if (qd c qll).2 = true then qtf (qi c).pos (qd c qll).1
 else if (qd c qgw).2 = true then qn9 35 (qi c).pos (qd c qgw).1
 else if (qd c qlp).2 = true then qn9 36 (qi c).pos (qd c qlp).1
 else qg0 c
theorem qtl {c:K} (h:begT c = true):em (qes c).1 < em c:=qlx (qdp _) h
theorem quc {c:K} (h:qek c = true):begT c = true:=by
 simp only [qek,decide_eq_true_eq] at h
 simp [begT,h]

theorem noBd:¬ (false = true):=by decide
theorem qoq (c:K):qdj (qff c) (qes c):=qh0 (fun c h=>by rw [qho _ h]) (qjd (rest c + 2)) (by have:=qu5 c;omega)
theorem qwt {c:K} (hn:NoEnd c):qdj (qcp c) (qjj c):=qpp (fun c h=>by rw [qho _ h]) (qjd (rest c + 2)) (qcg _) (qdp _) hn (by have:=qu5 c;omega)
theorem qow {c:K} (hn:NoEnd c):qdj (qgc c) (qg0 c):=qp4 (fun c h=>qrj _ h) (qum (rest c + 2)) hn (by have:=qu5 c;omega)
theorem qwu {c:K} (h:c.err≠0):(qes c).1 = c:=by unfold qes qdu;rw [if_neg h]
theorem qh4 {p:K->Bool} (hp:∀ c,p c = true->begT c = true) {c:K} (h:c.err≠0) (g:Nat) (acc:List N):qi6 p g c acc = (c,acc):=by
 cases g with
 | zero=>rfl
 | succ g =>
   rw [qi6,if_neg]
   intro q
   have:=hp c q
   rw [q87 h] at this;cases this
def AlL (out:List N) (p:RL) (r:K×List N):Prop:=p.1 = r.1∧(p.2.2 = true->p.2.1 = out ++ r.2)∧(p.2.2 = false->p.1.err≠0)
def AlR (p:R3) (r:K×N):Prop:=p.1 = r.1∧(p.2.2 = true->p.2.1 = r.2)∧(p.2.2 = false->p.1.err≠0)
theorem qbfx {p:K×Option N} {r:K×N} (h:qdj p r):AlR (ofO p) r:=by
 refine ⟨h.1,fun q=>?_,fun q=>?_⟩
 ·exact qhc h q
 ·exact qhe h (by intro e;have:(ofO p).2.2 = true:=e;rw [this] at q;cases q)
theorem qzg {p:K->Bool} (hp:∀ c,p c = true->begT c = true):∀ (f g:Nat) (b:Bool) (c:K) (acc:List N),rest c < f->em c < g->AlL [] (rowF qdf (qe1 p) f b c acc).2 (qi6 p g c acc)
 | 0,_,_,_,_,h,_=>absurd h (by omega)
 | _,0,_,_,_,_,h=>absurd h (by omega)
 | f + 1, g + 1, b, c, acc, hf, hg => by
   rw [rowF,qi6]
   cases ha:p c with
   | false =>
     rw [if_neg (show ¬ (qe1 p b c).2.2 = true by show ¬ p c = true;rw [ha];exact noBd),if_neg noBd]
     exact ⟨rfl,fun _=>by rw [List.nil_append],fun h=>by cases h⟩
   | true =>
     rw [if_pos (show (qe1 p b c).2.2 = true from ha),if_pos rfl]
     have hal:=qbfx (qoq c)
     have h5:=qtl (hp c ha)
     cases ho:(qdf c).2.2 with
     | true =>
       rw [if_pos (show (qdf (qe1 p b c).2.1).2.2 = true from ho)]
       have h1:=goes_atom.l c ho
       have e1:(qdf c).1 = (qes c).1:=hal.1
       have e2:(qdf c).2.1 = (qes c).2:=hal.2.1 ho
       show AlL [] (rowF qdf (qe1 p) f b (qdf c).1 (acc ++ [(qdf c).2.1])).2 _
       rw [← e1,← e2]
       rw [← e1] at h5
       exact qzg hp f g b _ _ (by omega) (by omega)
     | false =>
       rw [if_neg (show ¬ (qdf (qe1 p b c).2.1).2.2 = true by show ¬ (qdf c).2.2 = true;rw [ho];exact noBd)]
       have h3:(qdf c).1.err≠0:=hal.2.2 ho
       have e1:(qdf c).1 = (qes c).1:=hal.1
       rw [qh4 hp (by rw [← e1];exact h3)]
       exact ⟨e1,(fun h=>by cases h),fun _=>h3⟩
theorem qv8 {p:K->Bool} (hp:∀ c,p c = true->begT c = true) (c:K):AlL [] (rowS qdf (qe1 p) false c []).2 (qi6 p (em c + 1) c []):=qzg hp _ _ _ _ _ (Nat.lt_succ_self _) (Nat.lt_succ_self _)
theorem qbhl (c:K):AlR (conK c) (qic c):=by
 unfold conK qic qya
 have h:=qv8 (p:=begT) (fun _ h=>h) (kindK c 2).1
 cases hk:(kindK c 2).2 with
 | true =>
   rw [if_pos rfl]
   refine ⟨h.1,fun q=>?_,h.2.2⟩
   have:=h.2.1 q
   rw [List.nil_append] at this
   simp only;rw [this]
 | false =>
   rw [if_neg noBd]
   have h3:=qlc hk
   rw [qh4 (fun _ h=>h) h3]
   exact ⟨rfl,(fun q=>by cases q),fun _=>h3⟩
theorem q6n {one:K->R3} {x:List UInt8} (f:Nat) (c:K) (acc:List N):rowF one (qbs x) (f + 1) true c acc = if (qd c x).2 = true then rowF one (qbs x) (f + 1) false (qd c x).1 acc else (true,(qd c x).1,acc,true):=by
 rw [rowF,rowF]
 have h1:qbs x true c = (true,(qd c x).1,(qd c x).2):=if_pos rfl
 have h2:qbs x false (qd c x).1 = (true,(qd c x).1,true):=rfl
 rw [h1,h2]
 cases (qd c x).2 with
 | true=>rfl
 | false=>rfl
theorem all_cons:∀ (f g:Nat) (c:K) (acc:List N),rest c < f->em c < g->AlL [] (rowF conK (qbs [124]) f false c acc).2 (ql7 g c acc)
 | 0,_,_,_,h,_=>absurd h (by omega)
 | _,0,_,_,_,h=>absurd h (by omega)
 | f + 1, g + 1, c, acc, hf, hg => by
   rw [rowF,ql7]
   rw [if_pos (show (qbs [124] false c).2.2 = true from rfl)]
   show AlL [] (if (conK c).2.2 = true then rowF conK (qbs [124]) f true (conK c).1 (acc ++ [(conK c).2.1]) else (true,(conK c).1,acc,false)).2 _
   have hal:=qbhl c
   cases ho:(conK c).2.2 with
   | false =>
     rw [if_neg noBd]
     have h3:=hal.2.2 ho
     have e1:=hal.1
     rw [← e1,qd9 h3,if_neg noBd]
     exact ⟨rfl,(fun q=>by cases q),fun _=>h3⟩
   | true =>
     rw [if_pos rfl]
     have e1:=hal.1
     have e2:=hal.2.1 ho
     have h1:=goes_con.l c ho
     have h2:=(goes_con.m c).em
     rw [← e1,← e2]
     obtain ⟨f,rfl⟩:∃ k,f = k + 1:=⟨f - 1,by omega⟩
     rw [q6n]
     cases ht:(qd (conK c).1 [124]).2 with
     | true =>
       rw [if_pos rfl,if_pos rfl]
       have h4:=qch ht
       have h5:=qh9 ht
       exact all_cons (f + 1) g _ _ (by omega) (by omega)
     | false =>
       rw [if_neg noBd,if_neg noBd]
       exact ⟨rfl,fun _=>by rw [List.nil_append],fun q=>by cases q⟩
theorem qp6 {c:K} (h:c.err≠0):∀ (g:Nat) (acc:List N),(ql7 g c acc).1 = c
 | 0,_=>rfl
 | g + 1, acc => by
   have h1:(qic c).1 = c:=by
    unfold qic qya
    rw [qjk h,qh4 (fun _ h=>h) h]
   rw [ql7,h1,qd9 h,if_neg noBd]
theorem qba2 (p:Int) (c:K):AlR (qj9 p c) (qtf p c):=by
 unfold qj9 qtf qyv qzr qvz qzs
 have h:=qv8 (p:=qek) (fun _ h=>quc h) (kindK c 2).1
 cases hk:(kindK c 2).2 with
 | false =>
   rw [if_neg noBd]
   have h3:=qlc hk
   rw [qh4 (fun _ h=>quc h) h3,qbj h3]
   exact ⟨(qp6 h3 _ _).symm,(fun q=>by cases q),fun _=>h3⟩
 | true =>
   rw [if_pos rfl]
   have e1:=h.1
   have hv:(rowS qdf (qe1 qek) false (kindK c 2).1 []).2.2.2 = true:=qnl _ _ _ _ (Nat.lt_succ_self _)
   have e2:=h.2.1 hv
   rw [List.nil_append] at e2
   rw [← e1,← e2]
   generalize rowS qdf (qe1 qek) false (kindK c 2).1 [] = r at *
   cases hw:(qc r.2.1 [61]).2 with
   | false =>
     rw [if_neg noBd]
     have h3:=qc4 hw
     exact ⟨(qp6 h3 _ _).symm,(fun q=>by cases q),fun _=>h3⟩
   | true =>
     rw [if_pos rfl]
     have hc:=all_cons (rest (qc r.2.1 [61]).1 + 1) (em (qc r.2.1 [61]).1 + 2) (qc r.2.1 [61]).1 r.2.2.1 (Nat.lt_succ_self _) (by omega)
     refine ⟨hc.1,fun q=>?_,hc.2.2⟩
     have:=hc.2.1 q
     rw [List.nil_append] at this
     exact congrArg (qwp p (qex c 2) r.2.2.1) this
theorem q3o (kd:Int) {c:K} (hn:NoEnd c):AlR (qbe kd c) (qgg kd c):=by
 have h:=qow hn
 unfold qbe qgg
 cases ho:(qgc c).2 with
 | none =>
   have h3:(qgc c).1.err≠0:=h.2.2 ho
   rw [if_neg (by simp)]
   refine ⟨?_,(fun q=>by simp only [ofO,ho] at q;cases q),fun _=>h3⟩
   rw [← h.1,if_neg (fun q=>h3 q.1)];rfl
 | some n =>
   have e2:n = (qg0 c).2:=h.2.1 n ho
   rw [Option.isSome_some,Option.getD_some,← e2,← h.1]
   by_cases hk:n.kind = kd
   ·rw [if_neg (fun q=>q.2 hk),if_neg (fun q=>q.2 hk)]
    exact ⟨rfl,fun _=>by simp only [ofO,ho];rfl,fun q=>by simp only [ofO,ho] at q;cases q⟩
   ·rw [if_pos ⟨rfl,hk⟩]
    by_cases he:(qgc c).1.err = 0
    ·rw [if_pos ⟨he,hk⟩]
     exact ⟨rfl,(fun q=>by cases q),fun _=>qfa _⟩
    ·rw [if_neg (fun q=>he q.1),qeq he]
     exact ⟨rfl,(fun q=>by cases q),fun _=>he⟩
def memS (kd:Int) (f:Nat) (c:K) (acc:List N):Bool×RL:=if (qbe kd c).2.2 = true then rowF (qbe kd) qd2 f true (qbe kd c).1 (acc ++ [(qbe kd c).2.1]) else (true,(qbe kd c).1,acc,false)
theorem q2n (c:K):qd2 true c = (true,(qgi c).1,(qgi c).2):=by
 unfold qd2 qgi
 cases hi:isK c [125] with
 | true =>
   have ht:isK c [59] = false:=by
    unfold isK qfm at hi ⊢
    simp only [Bool.and_eq_true,decide_eq_true_eq] at hi
    rw [hi.2.2]
    simp
   rw [if_pos rfl,qe3 ht];rfl
 | false=>rw [if_neg noBd];rfl
theorem qba4 (kd:Int) (f:Nat) (c:K) (acc:List N):rowF (qbe kd) qd2 (f + 1) true c acc = if (qgi c).2 = true then memS kd f (qgi c).1 acc else (true,(qgi c).1,acc,true):=by
 rw [rowF,q2n];rfl
theorem qba6 {c:K} (h:c.err≠0):qgi c = (c,false):=by unfold qgi;rw [qd9 h];rfl
theorem q09 (kd:Int) (out:List N):∀ (f g:Nat) (c:K) (acc:List N),rest c≤f->em c < g->NoEnd c->AlL out (memS kd f c (out ++ acc)).2 (qtb kd g c acc)
 | _,0,_,_,_,h,_=>absurd h (by omega)
 | f, g + 1, c, acc, hf, hg, hn => by
   have hal:=q3o kd hn
   rw [qtb,memS]
   cases ho:(qbe kd c).2.2 with
   | false =>
     rw [if_neg noBd]
     have h3:=hal.2.2 ho
     rw [← hal.1,qba6 h3,if_neg noBd]
     exact ⟨rfl,(fun q=>by cases q),fun _=>h3⟩
   | true =>
     rw [if_pos rfl,← hal.1,← hal.2.1 ho]
     have h1:=(qdz kd).l c ho
     have h2:=((qdz kd).m c).em
     obtain ⟨f,rfl⟩:∃ k,f = k + 1:=⟨f - 1,by omega⟩
     rw [qba4]
     cases hm:(qgi (qbe kd c).1).2 with
     | false =>
       rw [if_neg noBd,if_neg noBd]
       exact ⟨rfl,fun _=>by rw [List.append_assoc],fun q=>by cases q⟩
     | true =>
       rw [if_pos rfl,if_pos rfl,List.append_assoc]
       have h4:=(qns (qbe kd c).1).2.1
       have h5:=q6r hm
       exact q09 kd out f g _ _ (by omega) (by omega) (hn.mon (((qdz kd).m c).trans (qns _)))
theorem qbbw (kd:Int) (c:K) (out:List N) (hn:NoEnd c):AlL out (qcr kd c out) (qlg kd c):=by
 unfold qcr qlg qsi qsk
 cases h1:(qc c [119,104,101,114,101]).2 with
 | false =>
   have h3:=qc4 h1
   rw [if_neg noBd,qbj h3,if_neg (by rw [decide_eq_false h3];exact noBd),qbj h3]
   exact ⟨rfl,(fun q=>by cases q),fun _=>h3⟩
 | true =>
   rw [if_pos rfl]
   cases h2:(qc (qc c [119,104,101,114,101]).1 [123]).2 with
   | false =>
     have h3:=qc4 h2
     rw [if_neg noBd,if_neg (by rw [decide_eq_false h3];exact noBd),qbj h3]
     exact ⟨rfl,(fun q=>by cases q),fun _=>h3⟩
   | true =>
     rw [if_pos rfl]
     have hnd:=hn.mon ((qe c [119,104,101,114,101]).trans (qe _ [123]))
     generalize (qc (qc c [119,104,101,114,101]).1 [123]).1 = d at *
     have hE:∀ (r:RL) (r':K×List N),AlL out r r'->AlL out (qkv r) ((qc r'.1 [125]).1,r'.2):=fun r r' h=>by
      unfold qkv
      cases hr:r.2.2 with
      | true =>
        rw [if_pos rfl,← h.1]
        refine ⟨rfl,fun _=>h.2.1 hr,fun q=>qc4 q⟩
      | false =>
        rw [if_neg noBd]
        have h3:=h.2.2 hr
        rw [← h.1,qbj h3]
        exact ⟨rfl,fun q=>(by rw [hr] at q;cases q),fun _=>h3⟩
     refine hE _ _ ?_
     unfold rowS
     rw [rowF]
     cases hi:isK d [125] with
     | true =>
       have hm:qd2 false d = (false,d,false):=by unfold qd2;rw [if_pos hi]
       rw [hm,if_neg noBd,Bool.not_true,Bool.and_false,if_neg noBd]
       exact ⟨rfl,fun _=>by rw [List.append_nil],fun q=>by cases q⟩
     | false =>
       have hm:qd2 false d = (true,d,true):=by
        unfold qd2 qbs
        simp [hi]
       rw [hm,if_pos rfl]
       by_cases he:d.err = 0
       ·rw [decide_eq_true he,Bool.not_false,Bool.and_true,if_pos rfl]
        have:=q09 kd out (rest d) (em d + 2) d [] (Nat.le_refl _) (by omega) hnd
        rw [List.append_nil] at this
        exact this
       ·rw [decide_eq_false he,Bool.false_and,if_neg noBd]
        have hk:(qbe kd d).2.2 = false∧(qbe kd d).1 = d:=by
         have hb:qgc d = (d,none):=by unfold qgc;rw [qbn,qjk he,if_neg noBd]
         unfold qbe
         rw [hb,if_neg (by simp)]
         exact ⟨rfl,rfl⟩
        rw [hk.1,if_neg noBd]
        exact ⟨hk.2,(fun q=>by cases q),fun _=>by show (qbe kd d).1.err≠0;rw [hk.2];exact he⟩
theorem qgz {kd:Int} {c:K} (h:c.err≠0):(qlg kd c).1 = c:=by
 unfold qlg qsi qsk
 rw [qbj h]
 simp only
 rw [qbj h]
 simp only
 rw [if_neg (by rw [decide_eq_false h];exact noBd),qbj h]
theorem qnc {k:Int} {c:K} (h:c.err≠0):(qen k c).1 = c:=by
 unfold qen
 split
 ·rw [qjk h]
 ·exact qwu h
theorem q8n {c:K} {k:Int} (h:(qi c).kind≠k):(kindK c k).1 = qdy c 5:=by
 unfold kindK
 split
 ·rename_i q
  simp only [Bool.and_eq_true,decide_eq_true_eq] at q
  exact absurd q.2 h
 ·rfl
theorem qzf (k p:Int) {c:K} (hn:NoEnd c):AlR (qja k p c) (qn9 k p c):=by
 have hP:=qwt hn
 unfold qja qn9 qzc q0y
 cases h1:(qcp c).2 with
 | none =>
   have h3:(qcp c).1.err≠0:=hP.2.2 h1
   rw [Option.isSome_none,if_neg noBd,← hP.1,qjk h3]
   refine ⟨?_,(fun q=>by cases q),fun _=>h3⟩
   simp only
   rw [qnc h3,qgz h3]
 | some v =>
   have e2:v = (qjj c).2:=hP.2.1 v h1
   have hnp:=hn.mon (qf9 c)
   rw [Option.isSome_some,if_pos rfl,Option.getD_some,← e2,← hP.1]
   unfold qxn
   cases h2:(kindK (qcp c).1 2).2 with
   | false =>
     have h3:=qlc h2
     rw [if_neg noBd]
     refine ⟨?_,(fun q=>by cases q),fun _=>h3⟩
     simp only
     rw [qnc h3,qgz h3]
   | true =>
     rw [if_pos rfl]
     have hnk:=hnp.mon (qbw (qcp c).1 2)
     generalize (kindK (qcp c).1 2).1 = d at *
     unfold qu7
     by_cases h3:k = 35∧(qi d).kind≠1
     ·rw [if_pos h3]
      have e3:(qen k d).1 = qdy d 5:=by unfold qen;rw [if_pos h3.1];exact q8n h3.2
      refine ⟨?_,(fun q=>by cases q),fun _=>qfa d⟩
      simp only
      rw [e3,qgz (qfa d)]
     ·rw [if_neg h3]
      have hA:qdj (qff d) (qen k d):=by
       by_cases h5:k = 35
       ·have hk:(qi d).kind = 1:=by
         by_cases hq:(qi d).kind = 1
         ·exact hq
         ·exact absurd ⟨h5,hq⟩ h3
        have he:d.err = 0:=(qe8 (by rw [hk];decide)).1
        have ha:qff d = (qg d,some (qhq d 1 [])):=by unfold qff;rw [qbc,if_pos hk]
        have hb:qen k d = (qg d,qhq d 1 []):=by
         unfold qen
         rw [if_pos h5,qkj he hk,qob he hk];rfl
        rw [ha,hb]
        exact ⟨rfl,fun n h=>by cases h;rfl,fun h=>by cases h⟩
       ·have:qen k d = qes d:=by unfold qen;rw [if_neg h5]
        rw [this];exact qoq d
      unfold qy1
      have hna:=hnk.mon (qhu d)
      cases ha:(qff d).2 with
      | none =>
        have h4:(qff d).1.err≠0:=hA.2.2 ha
        rw [Option.isSome_none,if_neg noBd]
        refine ⟨?_,(fun q=>by cases q),fun _=>h4⟩
        simp only
        rw [← hA.1,qgz h4]
      | some a =>
        have e4:a = (qen k d).2:=hA.2.1 a ha
        rw [Option.isSome_some,if_pos rfl,Option.getD_some,← hA.1,← e4]
        have hB:=qbbw (if k = 35 then 32 else 31) (qff d).1 (v ++ [a]) hna
        refine ⟨hB.1,fun q=>?_,hB.2.2⟩
        exact congrArg (qme k p (qex (qcp c).1 2) v) (hB.2.1 q)
theorem qbev {c:K} (hn:NoEnd c):AlR (qp c) (q0k c):=by
 unfold qp q0k
 split
 ·exact qba2 _ _
 ·split
  ·exact qzf _ _ (hn.mon (qn _ _))
  ·split
   ·exact qzf _ _ (hn.mon (qn _ _))
   ·exact qbfx (qow hn)
end Go.Proofs.Ytfjbmjplnmaclaa
