/- Texts of this proof, joined. -/
import Derived.Test.YtlmcofjcpadmiaaGreatNbt
import Derived.Test.YtlmcofjcpadmiaaGreatNat
set_option linter.unusedVariables false
set_option linter.unusedSimpArgs false

/- declarations: the reference: of a text -/
namespace Go.Proofs.YtlmcofjcpadmiaaGreat
open Go Go.RowKit Go.V
set_option linter.unusedSectionVars false

theorem qwc {c:K} (hn:NoEnd c):(qp c).kind≠0 ↔ c.err = 0∧0 < rest c:=by
 constructor
 ·intro h
  obtain ⟨h1,h2⟩:=qfa h
  exact ⟨h1,by unfold rest;omega⟩
 ·rintro ⟨h1,h2⟩
  have hl:c.at' < c.l.length:=by unfold rest at h2;omega
  rw [qm5 h1 (by omega)]
  refine hn _ ?_
  rw [List.getD_eq_getElem?_getD,List.getElem?_eq_getElem hl]
  exact List.getElem_mem hl
theorem q76 {c:K} (hn:NoEnd c):qd7 true c = (true,(ql8 c).1,(ql8 c).2):=by
 unfold qd7 ql8
 by_cases hk:(qp c).kind = 0
 ·have ht:isK c [59] = false:=by
   cases hi:isK c [59] with
   | false=>rfl
   | true=>exact absurd hk (qdp hi)
  rw [if_pos hk,qkq ht];rfl
 ·rw [if_neg hk]
  unfold qbh
  rw [if_pos rfl]
  have hn2:=hn.mon (qm c [59])
  have:=qwc hn2
  by_cases h1:(qp (qf c [59]).1).kind = 0
  ·have h2:¬ ((qf c [59]).1.err = 0∧0 < rest (qf c [59]).1):=fun q=>this.2 q h1
   simp only [h1,decide_true,Bool.not_true,Bool.and_false,Bool.and_assoc]
   by_cases h3:(qf c [59]).1.err = 0
   ·have h4:¬ 0 < rest (qf c [59]).1:=fun q=>h2 ⟨h3,q⟩
    simp [h4]
   ·simp [h3]
  ·obtain ⟨h3,h4⟩:=this.1 h1
   simp [h1,h3,h4]
def decS (f:Nat) (c:K) (acc:List N):Bool×RL:=if (qcr c).2.2 = true then rowF qcr qd7 f true (qcr c).1 (acc ++ [(qcr c).2.1]) else (true,(qcr c).1,acc,false)
theorem qbh3 (f:Nat) {c:K} (acc:List N) (hn:NoEnd c):rowF qcr qd7 (f + 1) true c acc = if (ql8 c).2 = true then decS f (ql8 c).1 acc else (true,(ql8 c).1,acc,true):=by
 rw [rowF,q76 hn];rfl
theorem q6f:∀ (f g:Nat) (c:K) (acc:List N),rest c≤f->em c < g->NoEnd c->AlL [] (decS f c acc).2 (qq0 g c acc)
 | _,0,_,_,_,h,_=>absurd h (by omega)
 | f, g + 1, c, acc, hf, hg, hn => by
   have hal:=qbhu hn
   rw [qq0,decS]
   cases ho:(qcr c).2.2 with
   | false =>
     rw [if_neg noBd]
     have h3:=hal.2.2 ho
     have hm:ql8 (qcr c).1 = ((qcr c).1,false):=by unfold ql8;rw [qer h3];rfl
     rw [← hal.1,hm,if_neg noBd]
     exact ⟨rfl,(fun q=>by cases q),fun _=>h3⟩
   | true =>
     rw [if_pos rfl,← hal.1,← hal.2.1 ho]
     have h1:=goes_decl.l c ho
     have h2:=(goes_decl.m c).em
     obtain ⟨f,rfl⟩:∃ k,f = k + 1:=⟨f - 1,by omega⟩
     have hn1:=hn.mon (goes_decl.m c)
     rw [qbh3 f _ hn1]
     cases hm:(ql8 (qcr c).1).2 with
     | false =>
       rw [if_neg noBd,if_neg noBd]
       exact ⟨rfl,fun _=>by rw [List.nil_append],(fun q=>by cases q)⟩
     | true =>
       rw [if_pos rfl,if_pos rfl]
       have h4:=(qyw (qcr c).1).2.1
       have h5:=qbmi hm
       exact q6f f g _ _ (by omega) (by omega) (hn1.mon (qyw _))
theorem qbmq {c:K} (hn:NoEnd c) (he:c.err = 0):AlL [] (rowS qcr qd7 false c []).2 (qp7 c):=by
 unfold rowS qp7
 rw [rowF]
 by_cases hr:0 < rest c
 ·have hk:=(qwc hn).2 ⟨he,hr⟩
  have hm:qd7 false c = (true,c,true):=by unfold qd7 qbh;simp [hk]
  rw [if_pos hr,hm,if_pos rfl]
  exact q6f (rest c) (em c + 2) c [] (Nat.le_refl _) (by omega) hn
 ·have hk:(qp c).kind = 0:=by
   by_cases hq:(qp c).kind = 0
   ·exact hq
   ·exact absurd ((qwc hn).1 hq).2 hr
  have hm:qd7 false c = (false,c,false):=by unfold qd7;rw [if_pos hk]
  rw [if_neg hr,hm,if_neg noBd]
  exact ⟨rfl,fun _=>rfl,(fun q=>by cases q)⟩
theorem qbhb {c:K} (hn:NoEnd c) (he:c.err = 0):AlR ((qk9 c).1,(qk9 c).2.getD N0,(rowS qcr qd7 false c []).2.2.2) (qbni c):=by
 have h:=qbmq hn he
 refine ⟨h.1,fun q=>?_,h.2.2⟩
 have:=h.2.1 q
 rw [List.nil_append] at this
 exact congrArg quk this
end Go.Proofs.YtlmcofjcpadmiaaGreat

/- types: what is read is a type -/
namespace Go.Proofs.YtlmcofjcpadmiaaGreat
open Go Go.RowKit Go.V

inductive Stp:K->K->Prop
 | refl (c:K):Stp c c
 | next (c:K):Stp c (qg c)
 | fail (c:K) (e:Int):Stp c (qd9 c e)
 | nest (c:K) (n:Nat):Stp c { c with nest:=n }
 | trans {a b c:K}:Stp a b->Stp b c->Stp a c
theorem qhl (c:K):Stp c (qb c).1:=by
 unfold qb
 split
 ·split
  ·exact .nest c _
  ·exact .fail c 2
 ·exact .refl c
theorem qk6 (c:K):Stp c (qcn c):=by
 unfold qcn
 split
 ·split
  ·exact .nest c _
  ·exact .refl c
 ·exact .refl c
theorem qjt (c:K) (x:List UInt8):Stp c (qf c x).1:=by
 unfold qf
 split
 ·exact .next c
 ·exact .refl c
theorem qm0 (c:K) (x:List UInt8):Stp c (qh c x).1:=by
 unfold qh
 split
 ·exact .next c
 ·exact .fail c 5
theorem qwa (c:K) (k:Int):Stp c (kindK c k).1:=by
 unfold kindK
 split
 ·exact .next c
 ·exact .fail c 5
section
variable {rec:K->K×Option N} (hm:∀ c,Stp c (rec c).1)
include hm
theorem qhz (c:K):Stp c (qbg rec c).1:=by
 unfold qbg
 split
 ·exact .next c
 ·split
  ·exact .next c
  ·split
   ·split
    ·have h1:=((qhl c).trans (.next _)).trans (hm _)
     split
     ·exact (h1.trans (qm0 _ _)).trans (qk6 _)
     ·exact h1.trans (qk6 _)
    ·exact qhl c
   ·exact .fail c 5
theorem qty:∀ (f:Nat) (c:K) (acc:List N),Stp c (qcq rec f c acc).1
 | 0,c,acc=>.refl c
 | f + 1, c, acc => by
   rw [qcq]
   split
   ·split
    ·exact (qhz hm c).trans (qty f _ _)
    ·exact qhz hm c
   ·exact .refl c
theorem qvx (c:K):Stp c (qbq rec c).1:=by
 unfold qbq
 split
 ·exact (Stp.next c).trans (qty hm _ _ _)
 ·exact qhz hm c
theorem qjz (c:K):Stp c (qz rec c).1:=by
 unfold qz
 split
 ·exact (qwa c 2).trans (qhz hm _)
 ·exact qwa c 2
theorem qu3 (many:Bool):∀ (f:Nat) (c:K) (acc:List N),Stp c (qdc rec many f c acc).1
 | 0,c,acc=>.refl c
 | f + 1, c, acc => by
   rw [qdc]
   split
   ·split
    ·exact ((qjz hm c).trans (qjt _ _)).trans (qu3 many f _ _)
    ·exact qjz hm c
   ·exact qjz hm c
theorem q9j (c:K):Stp c (qek rec c).1:=by
 unfold qek
 split
 ·exact qjt c _
 ·exact (qjt c _).trans (qu3 hm _ _ _ _)
theorem qy5 (c:K):Stp c (qt rec c).1:=by
 unfold qt qel
 have h:=q9j hm c
 split
 ·split
  ·split
   ·split
    ·exact (h.trans (qm0 _ _)).trans (qm0 _ _)
    ·exact h.trans (qm0 _ _)
   ·exact h.trans (qm0 _ _)
  ·exact h
 ·exact .refl c
end
theorem qhu:∀ (f:Nat) (c:K),Stp c (qbe f c).1
 | 0,c=>.refl c
 | f + 1, c => by
   have hr:=(qhl c).trans (qvx (qhu f) (qb c).1)
   rw [qbe]
   split
   ·split
    ·split
     ·exact ((hr.trans (qjt _ _)).trans (qhu f _)).trans (qk6 _)
     ·exact hr.trans (qk6 _)
    ·exact hr.trans (qk6 _)
   ·exact qhl c
theorem Stp.words {c c':K} (h:Stp c c'):c'.l = c.l∧c'.ep = c.ep:=by
 induction h with
 | refl c=>exact ⟨rfl,rfl⟩
 | next c =>
   unfold qg
   split
   ·split<;>exact ⟨rfl,rfl⟩
   ·exact ⟨rfl,rfl⟩
 | fail c e=>unfold qd9;split<;>exact ⟨rfl,rfl⟩
 | nest c n=>exact ⟨rfl,rfl⟩
 | trans _ _ h1 h2=>exact ⟨h2.1.trans h1.1,h2.2.trans h1.2⟩
def okK (c:K):Prop:=∀ t∈c.l,qbbg t
theorem Stp.okK {c c':K} (h:Stp c c') (hc:okK c):okK c':=by
 unfold Go.Proofs.YtlmcofjcpadmiaaGreat.okK at *
 rw [h.words.1];exact hc
theorem qfm {c:K} (h:okK c):qbbg (qp c):=by
 unfold qp
 split
 ·split
  ·exact h _ (q53 (by assumption))
  ·exact ⟨fun h=>by simp at h,fun h=>by simp at h,fun h=>by simp at h⟩
 ·exact ⟨fun h=>by simp [T0] at h,fun h=>by simp [T0] at h,fun h=>by simp [T0] at h⟩
theorem qbpd {t:List UInt8} {p:Int} {ks:List N} (h:conW t = true) (hk:ks.all tyW = true):tyW (.mk 2 p 0 t ks) = true:=by
 rw [tyW,if_neg (by decide),if_pos ⟨rfl,rfl⟩,if_neg (qci1 h),h,q5s,hk];rfl
section
variable {rec:K->K×Option N} (hm:∀ c,Stp c (rec c).1) (ih:∀ c,okK c->∀ n,(rec c).2 = some n->tyW n = true)
include hm ih
omit hm in
theorem qx6 {c:K} (hc:okK c):∀ n,(qbg rec c).2 = some n->tyW n = true:=by
 intro n h
 obtain ⟨h1,h2,h3⟩:=qfm hc
 unfold qbg at h
 split at h
 ·rename_i hk;cases h;rw [qgr,tyW,if_pos rfl,h1 hk];rfl
 ·split at h
  ·rename_i hk;cases h;exact qbpd (h2 hk) rfl
  ·split at h
   ·split at h
    ·split at h
     ·simp only at h
      split at h
      ·exact ih _ (((qhl c).trans (.next _)).okK hc) n h
      ·cases h
     ·cases h
    ·cases h
   ·cases h
theorem q6j:∀ (f:Nat) (c:K) (acc:List N),okK c->acc.all tyW = true->∀ l,(qcq rec f c acc).2 = some l->l.all tyW = true
 | 0,c,acc,hc,_=>fun n h=>by cases h
 | f + 1, c, acc, hc, ha => fun l h => by
   rw [qcq] at h
   split at h
   ·split at h
    ·rename_i hs
     obtain ⟨n,hn⟩:=Option.isSome_iff_exists.1 hs
     refine q6j f _ _ ((qhz hm c).okK hc) ?_ l h
     rw [List.all_append,ha,hn]
     simp [qx6 ih hc n hn]
    ·cases h
   ·cases h;exact ha
theorem qcic {c:K} (hc:okK c):∀ n,(qbq rec c).2 = some n->tyW n = true:=by
 intro n h
 unfold qbq at h
 split at h
 ·rename_i hk
  obtain ⟨l,hl,rfl⟩:=Option.map_eq_some_iff.1 h
  exact qbpd ((qfm hc).2.1 hk) (q6j hm ih _ _ _ ((Stp.next c).okK hc) rfl l hl)
 ·exact qx6 ih hc n h
omit hm in
theorem qb53 {c:K} (hc:okK c):∀ n,(qz rec c).2 = some n->prW n = true:=by
 intro n h
 unfold qz at h
 split at h
 ·rename_i hk
  obtain ⟨m,hmm,rfl⟩:=Option.map_eq_some_iff.1 h
  obtain ⟨e1,e2⟩:=qg7 hk
  have h2:=qx6 ih ((qwa c 2).okK hc) m hmm
  rw [(qj9 hk).2]
  simp [prW,qp0,N.kind,N.num,N.text,N.kids,(qfm hc).2.1 e2,h2]
 ·cases h
theorem qy7 (many:Bool):∀ (f:Nat) (c:K) (acc:List N),okK c->acc.all prW = true->∀ l,(qdc rec many f c acc).2 = some l->l.all prW = true
 | 0,c,acc,hc,_=>fun n h=>by cases h
 | f + 1, c, acc, hc, ha => fun l h => by
   rw [qdc] at h
   split at h
   ·rename_i hs
    obtain ⟨n,hn⟩:=Option.isSome_iff_exists.1 hs
    have hall:(acc ++ [(qz rec c).2.getD N0]).all prW = true:=by
     rw [List.all_append,ha,hn]
     simp [qb53 ih hc n hn]
    split at h
    ·exact qy7 many f _ _ (((qjz hm c).trans (qjt _ _)).okK hc) hall l h
    ·cases h;exact hall
   ·cases h
theorem q4u {c:K} (hc:okK c):∀ l,(qt rec c).2 = some l->l.all prW = true:=by
 intro l h
 unfold qt at h
 split at h
 ·have h:=qjw h
  unfold qek at h
  split at h
  ·cases h;rfl
  ·exact qy7 hm ih _ _ _ _ ((qjt c _).okK hc) rfl l h
 ·simp only at h
  split at h
  ·cases h
  ·cases h;rfl
end
theorem q9q:∀ (f:Nat) (c:K),okK c->∀ n,(qbe f c).2 = some n->tyW n = true
 | 0,c,hc=>fun n h=>by cases h
 | f + 1, c, hc => fun n h => by
   have ih:=q9q f
   have hr:=(qhl c).trans (qvx (qhu f) (qb c).1)
   rw [qbe] at h
   split at h
   ·split at h
    ·rename_i hs
     obtain ⟨m,hm⟩:=Option.isSome_iff_exists.1 hs
     have h1:=qcic (qhu f) ih ((qhl c).okK hc) m hm
     split at h
     ·obtain ⟨q,hq,rfl⟩:=Option.map_eq_some_iff.1 h
      have h2:=ih _ ((hr.trans (qjt _ _)).okK hc) q hq
      rw [hm]
      rw [qiz,tyW,if_neg (by decide),if_pos ⟨rfl,rfl⟩,if_pos rfl,tysW,tysW,tysW]
      simp [h1,h2]
     ·rw [hm] at h;cases h;exact h1
    ·cases h
   ·cases h
theorem qb7x {f:Nat} {c:K} (hc:okK c):∀ n,(qdq f c).2 = some n->quW n = true:=by
 intro n h
 unfold qdq at h
 split at h
 ·rename_i hs
  obtain ⟨l,hl⟩:=Option.isSome_iff_exists.1 hs
  obtain ⟨q,hq,rfl⟩:=Option.map_eq_some_iff.1 h
  have h1:=q4u (qhu f) (q9q f) hc l hl
  have h2:=q9q f _ ((qy5 (qhu f) c).okK hc) q hq
  rw [hl]
  have hlen:(((l ++ [q]).length:Int) - 1).toNat = l.length:=by simp
  simp only [quW,qp3,qmt,N.kind,N.num,N.text,N.kids,Option.getD_some,hlen]
  simp [h1,h2]
 ·cases h
end Go.Proofs.YtlmcofjcpadmiaaGreat
