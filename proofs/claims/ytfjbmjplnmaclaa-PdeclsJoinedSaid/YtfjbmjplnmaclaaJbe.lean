/- Texts of this proof, joined. -/
import Derived.Test.YtfjbmjplnmaclaaJba
import Derived.Test.YtfjbmjplnmaclaaJbd
import Derived.Test.YtfjbmjplnmaclaaJap
import Derived.Lib.Join
set_option linter.unusedVariables false
set_option linter.unusedSimpArgs false

/- declarations, one behind the other, side by side -/
namespace Go.Proofs.Ytfjbmjplnmaclaa.JN
open Go Go.RowKit Go.V
set_option linter.unusedSectionVars false

theorem qbpt {c d:K} (m:Mon c d) (hg:c.good):∃ x,remT c = x ++ remT d:=by
 have h1:d.l = c.l:=m.2.2.2.1
 have h2:=m.2.1
 have h3:=(m.1 hg).1
 have h4:=hg.1
 unfold rest at h2
 rw [h1] at h2 h3
 refine ⟨(c.l.drop c.at').take (d.at' - c.at'),?_⟩
 unfold remT
 rw [h1]
 have e:c.l.drop d.at' = (c.l.drop c.at').drop (d.at' - c.at'):=by rw [List.drop_drop];congr 1;omega
 rw [e,List.take_append_drop]
theorem q7j:∀ a b:List T,tot (a ++ b) = tot a + tot b
 | [],b=>by rw [List.nil_append,tot];omega
 | t :: a,b=>by rw [List.cons_append,tot,tot,q7j a b];omega
theorem map_nil {x y:List T} (h:x.map bare = y.map bare) (hx:x = []):y = []:=by
 subst hx
 cases y with
 | nil=>rfl
 | cons t r=>simp at h
theorem qlo:∀ {a b:List T} {y:List T},(a ++ b).map bare = y.map bare->∃ a' b',y = a' ++ b'∧a.map bare = a'.map bare∧b.map bare = b'.map bare
 | [],b,y,h=>⟨[],y,rfl,rfl,h⟩
 | t :: a,b,[],h=>by simp at h
 | t :: a, b, t' :: y, h => by
   simp only [List.cons_append,List.map_cons,List.cons.injEq] at h
   obtain ⟨a',b',q1,q2,q3⟩:=qlo h.2
   exact ⟨t' :: a',b',by rw [q1];rfl,by rw [List.map_cons,List.map_cons,h.1,q2],q3⟩
theorem q02 {a b:List T} (h:a.map bare = b.map bare):a.length = b.length:=by
 have:=congrArg List.length h
 rwa [List.length_map,List.length_map] at this
def isS (t:T):Prop:=(t.kind = 4∨t.kind = 5)∧t.text = [59]
theorem qn8 {t t':T} (h:bare t = bare t') (hs:isS t):isS t':=⟨by rw [← qi4 h];exact hs.1,by rw [← qci h];exact hs.2⟩
theorem qj3 {t:T} {r:List T} (h:isS t):stL (t :: r):=.inr ⟨t,r,rfl,h.1,h.2⟩
theorem qxo {c c':K} {x x' R':List T} (hg:c.good) (hg':c'.good) (hn:c'.nest = c.nest) (he:c.err = 0) (he':c'.err = 0) (hp:(qp c).2.2 = true) (hx:remT c = x ++ remT (qp c).1) (hR:stL (remT (qp c).1)) (hx':remT c' = x' ++ R') (hb:x.map bare = x'.map bare) (hR':stL R') (hl:(remT (qp c).1).length≤R'.length) :
 (qp c).1.err = 0∧(qp c).1.nest = c.nest∧(qp c').2.2 = true∧NS (qp c).2.1 (qp c').2.1∧(qp c').1.good∧(qp c').1.err = 0∧(qp c').1.nest = c.nest∧remT (qp c').1 = R':=by
 have hbk:=(q0e c he hp).2
 rw [bk,bk,hx,q7j] at hbk
 have hsm:Sm 0 (remT (qp c).1,R') c c':=⟨hg,hg',⟨x,x',hx,hx',hb,by omega⟩,Int.le_refl 0,hl,⟨hR,hR'⟩,hn,he,he'⟩
 obtain ⟨q1,q2,q3,q4⟩:=qbbp ⟨hR,hR'⟩ c c' hsm hp
 obtain ⟨y,y',w1,w2,w3,_⟩:=q4.w
 have hy:y = []:=by
  have:=congrArg List.length w1
  rw [List.length_append] at this
  exact List.eq_nil_of_length_eq_zero (by simp only at this;omega)
 have hy':=map_nil w3 hy
 subst hy'
 exact ⟨q4.e,q1,q2,q3,q4.g',q4.e',q4.n.trans q1,w2⟩
theorem qk8 {c:K} (hn:NoEnd c) (he:c.err = 0) (hr:remT c≠[]):(qi c).kind≠0:=by
 cases h:remT c with
 | nil=>exact absurd h hr
 | cons t r =>
   rw [(qge h he).1]
   have hm:t∈c.l:=by
    have:t∈remT c:=by rw [h];simp
    exact List.mem_of_mem_drop this
   exact hn t hm
theorem q1e {c:K} {t:T} {r:List T} (h:remT c = t :: r) (he:c.err = 0):isK c [59] = qfm t [59]:=by
 unfold isK
 rw [(qge h he).1,decide_eq_true he,Bool.true_and]
theorem isS_word {t:T}:qfm t [59] = true ↔ isS t:=by
 unfold qfm isS
 simp only [Bool.and_eq_true,Bool.or_eq_true,decide_eq_true_eq]
theorem qbjd {c:K} (hn:NoEnd c) (he:c.err = 0) (hr:remT c≠[]) (f:Nat) (acc:List N):rowF qp qcb (f + 1) false c acc = if (qp c).2.2 = true then rowF qp qcb f true (qp c).1 (acc ++ [(qp c).2.1]) else (true,(qp c).1,acc,false):=by
 have hk:=qk8 hn he hr
 have m1:qcb false c = (true,c,true):=by
  unfold qcb qbs
  simp [hk]
 rw [rowF,m1,if_pos rfl]
theorem q70 {c:K} (he:c.err = 0) (hr:remT c = []) (f:Nat) (acc:List N):rowF qp qcb (f + 1) true c acc = (true,c,acc,true):=by
 have m1:qcb true c = (true,c,false):=by
  unfold qcb
  rw [if_pos (by rw [qn0 hr he])]
 rw [rowF,m1,if_neg noB]
theorem qk3 {c:K} {t:T} {r:List T} (hn:NoEnd c) (he:c.err = 0) (hr:remT c = t :: r) (hs:isS t) (f:Nat) (acc:List N):rowF qp qcb (f + 1) true c acc = if r = [] then (true,qg c,acc,true) else rowF qp qcb (f + 1) false (qg c) acc:=by
 have hk:=qk8 hn he (by rw [hr];simp)
 have hi:isK c [59] = true:=by rw [q1e hr he];exact isS_word.2 hs
 obtain ⟨a1,a2,_⟩:=qev hr he
 have m1:qcb true c = (true,qg c,!decide ((qi (qg c)).kind = 0)):=by
  unfold qcb qbs
  rw [if_neg hk,if_pos rfl,qgj hi];rfl
 by_cases h0:r = []
 ·rw [if_pos h0]
  have:(qi (qg c)).kind = 0:=by rw [qn0 (a1.trans h0) a2]
  rw [rowF,m1,decide_eq_true this,if_neg (by simp)]
 ·rw [if_neg h0]
  have hn2:NoEnd (qg c):=hn.mon (qbd c)
  have hk2:=qk8 hn2 a2 (by rw [a1];exact h0)
  rw [qbjd hn2 a2 (by rw [a1];exact h0),rowF,m1,decide_eq_false hk2,Bool.not_false,if_pos rfl]
theorem qb1u {c:K} {t:T} {r:List T} (hn:NoEnd c) (he:c.err = 0) (hr:remT c = t :: r) (hs:¬ isS t) (f:Nat) (acc:List N):rowF qp qcb (f + 1) true c acc = (true,c,acc,true):=by
 have hk:=qk8 hn he (by rw [hr];simp)
 have hi:isK c [59] = false:=by
  rw [q1e hr he]
  cases h:qfm t [59] with
  | false=>rfl
  | true=>exact absurd (isS_word.1 h) hs
 have m1:qcb true c = (true,c,false):=by
  unfold qcb qbs
  rw [if_neg hk,if_pos rfl,qe3 hi];rfl
 rw [rowF,m1,if_neg noB]
structure Like (c c':K):Prop where
 g:c'.good
 e:c'.err = 0
 n:c'.nest = c.nest
 k:NoEnd c'
theorem qbpr:∀ (f:Nat) (c:K) (acc:List N),c.good->c.err = 0->NoEnd c->remT c≠[]->rest c < f →
 (rowF qp qcb f false c acc).2.1.err = 0->remT (rowF qp qcb f false c acc).2.1 = [] →
 ∃ core tr l, remT c = core ++ tr ∧ core ≠ [] ∧ (tr = [] ∨ ∃ t, tr = [t] ∧ isS t) ∧ (rowF qp qcb f false c acc).2.2.1 = acc ++ l ∧
   (∀ (c':K) (core':List T) (sm:T) (tb:List T) (f':Nat) (acc':List N),Like c c'->core.map bare = core'.map bare->remT c' = core' ++ sm :: tb->isS sm->rest c' < f' →
    ∃ l' d' f'',l.map qj = l'.map qj∧rowF qp qcb f' false c' acc' = rowF qp qcb f'' true d' (acc' ++ l')∧remT d' = sm :: tb∧Like c d'∧rest d' < f'') ∧
   (∀ (c':K) (f':Nat) (acc':List N),Like c c'->(remT c).map bare = (remT c').map bare->rest c' < f' →
    ∃ l',l.map qj = l'.map qj∧(rowF qp qcb f' false c' acc').2.2.1 = acc' ++ l'∧(rowF qp qcb f' false c' acc').2.1.err = 0∧remT (rowF qp qcb f' false c' acc').2.1 = [])
 | 0,c,acc,_,_,_,_,h,_,_=>by omega
 | f + 1, c, acc, hg, he, hn, hr, hf, hE, hT => by
   rw [qbjd hn he hr] at hE hT ⊢
   cases hp:(qp c).2.2 with
   | false =>
     rw [hp,if_neg noB] at hE
     exact absurd hE ((qbev hn).2.2 hp)
   | true =>
   rw [hp,if_pos rfl] at hE hT
   rw [if_pos rfl]
   have hlt:=goes_decl.l c hp
   have hmon:=goes_decl.m c
   obtain ⟨x,hx⟩:=qbpt hmon hg
   have hnd:NoEnd (qp c).1:=hn.mon hmon
   have hed:(qp c).1.err = 0:=(q0e c he hp).1
   have hxne:x≠[]:=by
    intro q
    rw [q,List.nil_append] at hx
    have:=congrArg List.length hx
    rw [qer,qer] at this;omega
   obtain ⟨g,rfl⟩:∃ g,f = g + 1:=⟨f - 1,by omega⟩
   -- what the other does with its first declaration
   have hone:∀ (c':K) (x' R':List T) (f':Nat) (acc':List N),Like c c'->x.map bare = x'.map bare->remT c' = x' ++ R'->stL (remT (qp c).1)->stL R'->(remT (qp c).1).length≤R'.length->rest c' < f' →
    ∃ n' f1,f' = f1 + 1∧NS (qp c).2.1 n'∧rowF qp qcb f' false c' acc' = rowF qp qcb f1 true (qp c').1 (acc' ++ [n'])∧Like c (qp c').1∧remT (qp c').1 = R'∧rest (qp c').1 < f1:=fun c' x' R' f' acc' hl hb hx' hR hR' hlen hf'=>by
    obtain ⟨d1,d2,d3,d4,d5,d6,d7,d8⟩:=qxo hg hl.g hl.n he hl.e hp hx hR hx' hb hR' hlen
    have hr':remT c'≠[]:=by
     rw [hx']
     intro q
     exact hxne (map_nil hb.symm (List.append_eq_nil_iff.1 q).1)
    have hlt':=goes_decl.l c' d3
    obtain ⟨f1,rfl⟩:∃ f1,f' = f1 + 1:=⟨f' - 1,by omega⟩
    exact ⟨_,f1,rfl,d4,by rw [qbjd hl.k hl.e hr',if_pos d3],⟨d5,d6,d7,hl.k.mon (goes_decl.m c')⟩,d8,by omega⟩
   cases hrd:remT (qp c).1 with
   | nil =>
     rw [q70 hed hrd] at hE hT ⊢
     refine ⟨remT c,[],[(qp c).2.1],(List.append_nil _).symm,hr,.inl rfl,rfl,fun c' core' sm tb f' acc' hl hb hx' hsm hf'=>?_,fun c' f' acc' hl hb hf'=>?_⟩
     ·have hxc:remT c = x:=by rw [hx,hrd,List.append_nil]
      rw [hxc] at hb
      obtain ⟨n',f1,rfl,o1,o2,o3,o4,o5⟩:=hone c' core' (sm :: tb) f' acc' hl hb hx' (.inl hrd) (qj3 hsm) (by rw [hrd];simp) hf'
      exact ⟨[n'],_,f1,by rw [List.map_cons,List.map_cons,show qj (qp c).2.1 = qj n' from o1],o2,o4,o3,o5⟩
     ·have hxc:remT c = x:=by rw [hx,hrd,List.append_nil]
      rw [hxc] at hb
      obtain ⟨n',f1,rfl,o1,o2,o3,o4,o5⟩:=hone c' (remT c') [] f' acc' hl hb (List.append_nil _).symm (.inl hrd) (.inl rfl) (by rw [hrd];simp) hf'
      obtain ⟨f2,rfl⟩:∃ f2,f1 = f2 + 1:=⟨f1 - 1,by omega⟩
      refine ⟨[n'],by rw [List.map_cons,List.map_cons,show qj (qp c).2.1 = qj n' from o1],?_⟩
      rw [o2,q70 o3.e o4]
      exact ⟨rfl,o3.e,o4⟩
   | cons t r =>
     by_cases hs:isS t
     case neg =>
      rw [qb1u hnd hed hrd hs] at hT
      simp only at hT
      rw [hrd] at hT;cases hT
     rw [qk3 hnd hed hrd hs] at hE hT ⊢
     obtain ⟨a1,a2,a3⟩:=qev hrd hed
     have hst:stL (remT (qp c).1):=by rw [hrd];exact qj3 hs
     by_cases h0:r = []
     ·rw [if_pos h0] at hE hT ⊢
      subst h0
      rw [hrd] at hx
      refine ⟨x,[t],[(qp c).2.1],hx,hxne,.inr ⟨t,rfl,hs⟩,rfl,fun c' core' sm tb f' acc' hl hb hx' hsm hf'=>?_,fun c' f' acc' hl hb hf'=>?_⟩
      ·obtain ⟨n',f1,rfl,o1,o2,o3,o4,o5⟩:=hone c' core' (sm :: tb) f' acc' hl hb hx' hst (qj3 hsm) (by rw [hrd];simp) hf'
       exact ⟨[n'],_,f1,by rw [List.map_cons,List.map_cons,show qj (qp c).2.1 = qj n' from o1],o2,o4,o3,o5⟩
      ·rw [hx] at hb
       obtain ⟨x',b',y1,y2,y3⟩:=qlo hb
       cases b' with
       | nil=>simp at y3
       | cons t' b2 =>
         simp only [List.map_cons,List.cons.injEq] at y3
         have hb2:=map_nil y3.2 rfl
         subst hb2
         have hs':=qn8 y3.1 hs
         obtain ⟨n',f1,rfl,o1,o2,o3,o4,o5⟩:=hone c' x' [t'] f' acc' hl y2 y1 hst (qj3 hs') (by rw [hrd];simp) hf'
         obtain ⟨f2,rfl⟩:∃ f2,f1 = f2 + 1:=⟨f1 - 1,by omega⟩
         refine ⟨[n'],by rw [List.map_cons,List.map_cons,show qj (qp c).2.1 = qj n' from o1],?_⟩
         obtain ⟨b1,b2,b3⟩:=qev o4 o3.e
         rw [o2,qk3 o3.k o3.e o4 hs',if_pos rfl]
         exact ⟨rfl,b2,b1⟩
     ·rw [if_neg h0] at hE hT ⊢
      have hg1:(qg (qp c).1).good:=(qbd _).1 (hmon.1 hg)
      have hn1:NoEnd (qg (qp c).1):=hnd.mon (qbd _)
      have hr1:remT (qg (qp c).1)≠[]:=by rw [a1];exact h0
      have hlt1:rest (qg (qp c).1) < g + 1:=by
       have e1:(remT (qg (qp c).1)).length = rest (qg (qp c).1):=qer _
       have e2:(remT (qp c).1).length = rest (qp c).1:=qer _
       rw [a1] at e1
       rw [hrd,List.length_cons] at e2
       omega
      obtain ⟨core2,tr,l2,i1,i2,i3,i4,i5,i6⟩:=qbpr (g + 1) _ (acc ++ [(qp c).2.1]) hg1 a2 hn1 hr1 hlt1 hE hT
      rw [a1] at i1
      have htr:tr.length≤1:=by
       rcases i3 with rfl | ⟨t3,rfl,_⟩<;>simp
      have hlike:∀ {d':K},Like c d'->∀ {t':T} {R2:List T},remT d' = t' :: R2->Like (qg (qp c).1) (qg d'):=fun {d'} hd {t' R2} hq=>by
       obtain ⟨b1,b2,b3⟩:=qev hq hd.e
       refine ⟨(qbd _).1 hd.g,b2,?_,hd.k.mon (qbd _)⟩
       have hdn:(qp c).1.nest = c.nest:=by
        have:=qxo hg hg rfl he he hp hx hst hx rfl hst (Nat.le_refl _)
        exact this.2.1
       rw [b3,a3,hd.n,hdn]
      have hlike2:∀ {d':K},Like (qg (qp c).1) d'->Like c d':=fun {d'} hd=>by
       have hdn:(qp c).1.nest = c.nest:=by
        have:=qxo hg hg rfl he he hp hx hst hx rfl hst (Nat.le_refl _)
        exact this.2.1
       exact ⟨hd.g,hd.e,by rw [hd.n,a3,hdn],hd.k⟩
      refine ⟨x ++ t :: core2,tr,(qp c).2.1 :: l2,by rw [hx,hrd,i1,List.append_assoc];rfl,by simp,i3,by rw [i4,List.append_assoc];rfl,fun c' core' sm tb f' acc' hl hb hx' hsm hf'=>?_,fun c' f' acc' hl hb hf'=>?_⟩
      ·obtain ⟨x',b',y1,y2,y3⟩:=qlo hb
       cases b' with
       | nil=>simp at y3
       | cons t' core2' =>
         simp only [List.map_cons,List.cons.injEq] at y3
         have hs':=qn8 y3.1 hs
         have hlen2:=q02 y3.2
         rw [y1,List.append_assoc,List.cons_append] at hx'
         obtain ⟨n',f1,rfl,o1,o2,o3,o4,o5⟩:=hone c' x' (t' :: (core2' ++ sm :: tb)) f' acc' hl y2 hx' hst (qj3 hs') (by
          rw [hrd,i1];simp;omega) hf'
         obtain ⟨f2,rfl⟩:∃ f2,f1 = f2 + 1:=⟨f1 - 1,by omega⟩
         obtain ⟨b1,b2,b3⟩:=qev o4 o3.e
         have hlt2:rest (qg (qp c').1) < f2 + 1:=by
          have e1:(remT (qg (qp c').1)).length = rest (qg (qp c').1):=qer _
          have e2:(remT (qp c').1).length = rest (qp c').1:=qer _
          rw [b1] at e1
          rw [o4,List.length_cons] at e2
          omega
         obtain ⟨l',d',f'',j1,j2,j3,j4,j5⟩:=i5 (qg (qp c').1) core2' sm tb (f2 + 1) (acc' ++ [n']) (hlike o3 o4) y3.2 b1 hsm hlt2
         refine ⟨n' :: l',d',f'',by rw [List.map_cons,List.map_cons,show qj (qp c).2.1 = qj n' from o1,j1],?_,j3,hlike2 j4,j5⟩
         rw [o2,qk3 o3.k o3.e o4 hs',if_neg (by simp),j2,List.append_assoc];rfl
      ·rw [hx,hrd] at hb
       obtain ⟨x',b',y1,y2,y3⟩:=qlo hb
       cases b' with
       | nil=>simp at y3
       | cons t' r' =>
         simp only [List.map_cons,List.cons.injEq] at y3
         have hs':=qn8 y3.1 hs
         have hlen2:=q02 y3.2
         have hr':r'≠[]:=fun q=>h0 (map_nil y3.2.symm q)
         obtain ⟨n',f1,rfl,o1,o2,o3,o4,o5⟩:=hone c' x' (t' :: r') f' acc' hl y2 y1 hst (qj3 hs') (by rw [hrd];simp;omega) hf'
         obtain ⟨f2,rfl⟩:∃ f2,f1 = f2 + 1:=⟨f1 - 1,by omega⟩
         obtain ⟨b1,b2,b3⟩:=qev o4 o3.e
         have hlt2:rest (qg (qp c').1) < f2 + 1:=by
          have e1:(remT (qg (qp c').1)).length = rest (qg (qp c').1):=qer _
          have e2:(remT (qp c').1).length = rest (qp c').1:=qer _
          rw [b1] at e1
          rw [o4,List.length_cons] at e2
          omega
         obtain ⟨l',j1,j2,j3,j4⟩:=i6 (qg (qp c').1) (f2 + 1) (acc' ++ [n']) (hlike o3 o4) (by rw [a1,b1];exact y3.2) hlt2
         refine ⟨n' :: l',by rw [List.map_cons,List.map_cons,show qj (qp c).2.1 = qj n' from o1,j1],?_⟩
         rw [o2,qk3 o3.k o3.e o4 hs',if_neg hr']
         exact ⟨by rw [j2,List.append_assoc];rfl,j3,j4⟩
end Go.Proofs.Ytfjbmjplnmaclaa.JN

/- the lexer: plain laws -/
namespace Go.Proofs.Ytfjbmjplnmaclaa
open Go Go.RowKit Go.V

theorem qru {l:List UInt8} {n:Nat} (h:0 < n):(l.take n).getD 0 0 = l.getD 0 0:=by
 cases l with
 | nil=>simp
 | cons c r => cases n with
   | zero=>omega
   | succ n=>rfl
theorem qu0 {f:Int->Bool} {l:List UInt8} (hl:l≠[]) (h:f (l.getD 0 0).toNat = true):0 < qz f l:=by
 cases l with
 | nil=>exact absurd rfl hl
 | cons c r=>rw [qh6 (by simpa using h)];omega
/-! Where it fails. -/
theorem q2z {s:List UInt8} (h:s.length≤1048576):lexV s = if (lexG s (qbr s)).2.2 = 0 then ((lexG s (qbr s)).1 ++ [⟨0,s.length,0,[]⟩],0,0) else lexG s (qbr s):=by
 rw [lexV,if_neg (by omega),qjv]
/-! Each word stands where it says. -/
theorem q2q {l:List UInt8} (he:(qcf l).2 = 0):l.take (qcf l).1.text.length = (qcf l).1.text∧(qcf l).1.kind≠0:=by
 have key:∀ n,n≤l.length->l.take (l.take n).length = l.take n:=fun n hn=>by rw [List.length_take,Nat.min_eq_left hn]
 by_cases hd:qcd (l.getD 0 0).toNat = true
 ·rw [qjg hd]
  exact ⟨key _ (qdm _ _),by simp⟩
 ·have hd:qcd (l.getD 0 0).toNat = false:=by simpa using hd
  by_cases ho:(onW (l.getD 0 0).toNat && !decide (((l.getD 0 0).toNat:Int) = 39)) = true
  ·rw [qk2 hd ho]
   refine ⟨key _ (qdm _ _),?_⟩
   simp only [qni,qbmj]
   repeat' split
   all_goals simp
  ·have ho:(onW (l.getD 0 0).toNat && !decide (((l.getD 0 0).toNat:Int) = 39)) = false:=by simpa using ho
   by_cases hm:qir l = 0
   ·rw [qs7 hd ho hm] at he;simp at he
   ·rw [qf6 hd ho hm]
    exact ⟨key _ (qn7 _),by simp⟩

theorem qgm {f:Int->Bool}:∀ {d r:List UInt8},d.all (fun c=>f c.toNat) = true->qz f r = 0->qz f (d ++ r) = d.length
 | [],r,_,h=>by simpa using h
 | c :: d, r, h, hr => by
   simp only [List.all_cons,Bool.and_eq_true] at h
   rw [List.cons_append,qh6 h.1,qgm h.2 hr,List.length_cons]
def Gap (r:List UInt8):Prop:=r = []∨∃ r',r = 32 :: r'
theorem qw2 {f:Int->Bool} (hf:f 32 = false) {r:List UInt8} (h:Gap r):qz f r = 0:=by
 rcases h with rfl | ⟨r',rfl⟩
 ·rfl
 ·exact qie (by simpa using hf)
theorem q0o {l:List UInt8}:∀ {ms:List (List UInt8)},qka l ms≠0->l.take (qka l ms)∈ms
 | [],h=>absurd rfl h
 | m :: r, h => by
   rw [qka] at h ⊢
   by_cases hp:pfx m l = true
   ·rw [if_pos hp,of_decide_eq_true hp];simp
   ·rw [if_neg hp] at h ⊢
    exact List.mem_cons_of_mem _ (q0o h)
theorem qzn {d r:List UInt8} (hd:d∈marksW) (h:Gap r):qir (d ++ r) = d.length∧qcd ((d ++ r).getD 0 0).toNat = false∧onW ((d ++ r).getD 0 0).toNat = false∧qbr (d ++ r) = 0∧d≠[]:=by
 have hsk:∀ {c:UInt8} {l:List UInt8},qc0 c.toNat = false->pfx [45,45] (c :: l) = false->qbr (c :: l) = 0:=fun hb hp=>ql2 hp (qie (by simpa using hb))
 simp only [marksW,List.mem_cons,List.not_mem_nil,or_false] at hd
 rcases h with rfl | ⟨r',rfl⟩
 all_goals
  rcases hd with rfl | rfl | rfl | rfl | rfl | rfl | rfl | rfl | rfl | rfl | rfl | rfl
  all_goals
   refine ⟨?_,by first | decide | exact (by decide:qcd 45 = false) | (simp only [List.cons_append,List.getD_cons_zero];decide),by first | decide | (simp only [List.cons_append,List.getD_cons_zero];decide),?_,by decide⟩
   ·simp [qir,marksW,qka,pfx]
   ·exact hsk (by decide) (by simp [pfx])
theorem qq4 {d r:List UInt8} (h:d≠[]):(d ++ r).getD 0 0 = d.getD 0 0:=by
 cases d with
 | nil=>exact absurd rfl h
 | cons c d=>rfl
theorem qv3 {l:List UInt8} (h:onW (l.getD 0 0).toNat = true):qbr l = 0:=by
 cases l with
 | nil=>simp at h;revert h;decide
 | cons c r =>
   have h:onW c.toNat = true:=h
   have hb:qc0 c.toNat = false:=by
    apply Bool.eq_false_iff.2
    intro hb
    simp only [qc0,Bool.or_eq_true,decide_eq_true_eq] at hb
    simp only [onW,qvy,qro,qcd,Bool.or_eq_true,Bool.and_eq_true,decide_eq_true_eq] at h
    omega
   have h45:c≠45:=by
    intro e;subst e;revert h;decide
   exact ql2 (by simp [pfx,h45]) (qie (by simpa using hb))
def Good (t:T):Prop:=t.text≠[]∧∀ r,Gap r->qcf (t.text ++ r) = (⟨t.kind,0,t.num,t.text⟩,0)∧qbr (t.text ++ r) = 0
theorem q5l {l:List UInt8} (hl:l≠[]) (he:(qcf l).2 = 0):Good (qcf l).1:=by
 by_cases hd:qcd (l.getD 0 0).toNat = true
 ·have hp:=qu0 hl hd
  rw [qjg hd] at he ⊢
  have hne:l.take (qz qcd l)≠[]:=q7b hl (by omega)
  have h0:(l.take (qz qcd l)).getD 0 0 = l.getD 0 0:=qru hp
  refine ⟨hne,fun r hr=>?_⟩
  have hw:=qgm (r:=r) (qkp qcd l) (qw2 (f:=qcd) (by decide) hr)
  simp only at he
  refine ⟨?_,?_⟩
  ·rw [qjg (by rw [qq4 hne,h0];exact hd),hw,List.take_left,he]
  ·exact qv3 (by rw [qq4 hne,h0,onW,hd];simp)
 ·have hd:qcd (l.getD 0 0).toNat = false:=by simpa using hd
  by_cases ho:(onW (l.getD 0 0).toNat && !decide (((l.getD 0 0).toNat:Int) = 39)) = true
  ·have hon:onW (l.getD 0 0).toNat = true:=by simp only [Bool.and_eq_true] at ho;exact ho.1
   have hp:=qu0 hl hon
   rw [qk2 hd ho] at he ⊢
   have hne:l.take (qz onW l)≠[]:=q7b hl (by omega)
   have h0:(l.take (qz onW l)).getD 0 0 = l.getD 0 0:=qru hp
   refine ⟨hne,fun r hr=>?_⟩
   have hw:=qgm (r:=r) (qkp onW l) (qw2 (f:=onW) (by decide) hr)
   refine ⟨?_,?_⟩
   ·rw [qk2 (by rw [qq4 (by exact hne),show (qni (l.take (qz onW l))).text.getD 0 0 = l.getD 0 0 from h0];exact hd) (by rw [qq4 (by exact hne),show (qni (l.take (qz onW l))).text.getD 0 0 = l.getD 0 0 from h0];exact ho)]
    rw [show qz onW ((qni (l.take (qz onW l))).text ++ r) = (qni (l.take (qz onW l))).text.length from hw,List.take_left]
    rfl
   ·exact qv3 (by rw [qq4 (by exact hne),show (qni (l.take (qz onW l))).text.getD 0 0 = l.getD 0 0 from h0];exact hon)
  ·have ho:(onW (l.getD 0 0).toNat && !decide (((l.getD 0 0).toNat:Int) = 39)) = false:=by simpa using ho
   by_cases hm:qir l = 0
   ·rw [qs7 hd ho hm] at he;simp at he
   ·rw [qf6 hd ho hm]
    have hmem:l.take (qir l)∈marksW:=q0o hm
    have hne:=(qzn hmem (.inl rfl)).2.2.2.2
    refine ⟨hne,fun r hr=>?_⟩
    obtain ⟨g1,g2,g3,g4,_⟩:=qzn hmem hr
    refine ⟨?_,g4⟩
    simp only
    rw [qf6 g2 (by rw [g3];rfl) (by rw [g1];intro e;exact hne (List.eq_nil_of_length_eq_zero e)),g1,List.take_left]

theorem q0f {s:List UInt8}:∀ (f k:Nat),(lexF f s k).2.2 = 0->∀ t∈(lexF f s k).1,Good t∧t.kind≠0
 | 0,k,_,t,ht=>by simp [lexF] at ht
 | f + 1, k, h, t, ht => by
   rw [lexF] at h ht
   by_cases h1:k < s.length
   ·rw [if_pos h1] at h ht
    by_cases h2:(qcf (s.drop k)).2 = 0
    ·rw [if_pos h2] at h ht
     have hr:(lexF f s (lexK s k)).2.2 = 0:=by
      unfold appR at h
      split at h
      ·rename_i e;exact e
      ·exact h
     rw [appR,if_pos hr] at ht
     rcases List.mem_append.1 ht with ht | ht
     ·simp only [List.mem_singleton] at ht
      subst ht
      have hne:s.drop k≠[]:=by intro e;have:=congrArg List.length e;simp at this;omega
      exact ⟨q5l hne h2,(q2q h2).2⟩
     ·exact q0f f _ hr t ht
    ·rw [if_neg h2] at h;exact absurd h h2
   ·rw [if_neg h1] at ht;simp at ht

end Go.Proofs.Ytfjbmjplnmaclaa
