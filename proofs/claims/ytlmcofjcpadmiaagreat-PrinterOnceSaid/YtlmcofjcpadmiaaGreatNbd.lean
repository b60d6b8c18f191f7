/- A text of this proof. -/
import Derived.Test.YtlmcofjcpadmiaaGreatNbc
import Derived.Test.YtlmcofjcpadmiaaGreatNaz
set_option linter.unusedVariables false
set_option linter.unusedSimpArgs false

/- patterns that are written: their words; they are read as they were -/
namespace Go.Proofs.YtlmcofjcpadmiaaGreat
open Go Go.RowKit Go.V

def tkP (n:N):List T:=(tokW (ptP n)).getD []
def atPK (n:N):List T:=cloK (qbi n) (tkP n)
def qkn (n:N):T:=⟨if n.kind = 11 then 1 else 2,0,0,n.text⟩
def intT (m:Int):T:=⟨3,0,m,digI m⟩
def tkP' (n:N):List T:=if n.kind = 12 then [mkT [95]] else if n.kind = 13 then [intT n.num] else qkn n :: (n.kids.map atPK).flatten
inductive PaQ (n:N):Prop
 | var (h:n.kind = 11) (h1:varW n.text = true) (h2:n.kids = []) (h3:n.num = 0)
 | any (h:n.kind = 12) (h1:n.text = []) (h2:n.kids = []) (h3:n.num = 0)
 | int (h:n.kind = 13) (h1:n.text = []) (h2:n.kids = []) (h3:0≤n.num)
 | con (h:n.kind = 14) (h1:conW n.text = true) (h2:∀ x∈n.kids,paW x = true) (h3:n.num = 0)
theorem qg6 {n:N} (h:paW n = true):PaQ n:=by
 rw [qbpu] at h
 have h0:decide ((n.kids.length:Int) = 0) = true->n.kids = []:=fun e=>List.length_eq_zero_iff.1 (by have:=of_decide_eq_true e;omega)
 by_cases h1:n.kind = 11
 ·rw [if_pos h1] at h
  simp only [Bool.and_eq_true] at h
  exact .var h1 h.1.2 (h0 h.2) (of_decide_eq_true h.1.1)
 rw [if_neg h1] at h
 by_cases h2:n.kind = 12
 ·rw [if_pos h2] at h
  simp only [Bool.and_eq_true] at h
  exact .any h2 (of_decide_eq_true h.1.1) (h0 h.2) (of_decide_eq_true h.1.2)
 rw [if_neg h2] at h
 by_cases h3:n.kind = 13
 ·rw [if_pos h3] at h
  simp only [Bool.and_eq_true] at h
  exact .int h3 (of_decide_eq_true h.1.1) (h0 h.2) (of_decide_eq_true h.1.2)
 rw [if_neg h3] at h
 by_cases h4:n.kind = 14
 ·rw [if_pos h4] at h
  simp only [Bool.and_eq_true,List.all_eq_true] at h
  exact .con h4 h.1.2 h.2 (of_decide_eq_true h.1.1)
 ·rw [if_neg h4] at h;cases h
theorem qbo2 {n:N} (h:(enc n).wf):n.num≤9223372036854775807:=(q1i ((qmg n).1 h).2.2.2.2.1).2
theorem qcf {n:N} (h:(enc n).wf) {x:N} (hx:x∈n.kids):(enc x).wf:=((qmg n).1 h).2.2.2.2.2 x hx
theorem qcku:Wd [95] [mkT [95]]:=fun r hr=>by
 rw [qqv (by decide) (by decide) (by decide) (by decide) hr]
 cases tokW r<;>rfl
theorem wdP:∀ n,paW n = true->(enc n).wf->Wd (ptP n) (tkP n)∧tkP n = tkP' n:=N.ind fun n ih ht hwf=>by
 have hw:Wd (ptP n) (tkP' n):=by
  intro r hr
  rw [qo7,tkP']
  rcases qg6 ht with ⟨h,h1,h2,h3⟩ | ⟨h,h1,h2,h3⟩ | ⟨h,h1,h2,h3⟩ | ⟨h,h1,h2,h3⟩
  ·rw [if_neg (by omega),if_neg (by omega),if_neg (by omega),if_neg (by omega),h2]
   show tokW ((n.text ++ []) ++ r) = _
   rw [List.append_nil,qoc h1 hr,qkn,if_pos h];cases tokW r<;>rfl
  ·rw [if_pos h,if_pos h];exact qcku r hr
  ·rw [if_neg (by omega),if_pos h,if_neg (by omega),if_pos h,qbc4 h3 (qbo2 hwf) hr];cases tokW r<;>rfl
  ·rw [if_neg (by omega),if_neg (by omega),if_neg (by omega),if_neg (by omega),List.append_assoc]
   obtain ⟨q1,q2⟩:=qwy (f:=fun x=>cloW (qbi x) (ptP x)) (g:=atPK) n.kids (fun x hx=>qna (ih x hx (h2 x hx) (qcf hwf hx)).1 _) r hr
   have e:n.kids.map atP = n.kids.map fun x=>32 :: cloW (qbi x) (ptP x):=rfl
   rw [e,qmx h1 q1,qkn,if_neg (by omega)]
   refine (congrArg _ q2).trans ?_
   cases tokW r<;>simp
 have he:tkP n = tkP' n:=by rw [tkP,hw.get];rfl
 exact ⟨by rw [he];exact hw,he⟩
def NoP (r:List T):Prop:=∀ t s,r = t :: s->t.kind≠1∧t.kind≠2∧t.kind≠3∧qcg t [95] = false∧qcg t [40] = false
theorem qbo9 {w:List UInt8} {s:List T} (h:w≠[40]) (h':w≠[95]):NoP (mkT w :: s):=fun t s' e=>by
 obtain ⟨rfl,_⟩:=List.cons.inj e
 exact ⟨by show (5:Int)≠1;decide,by show (5:Int)≠2;decide,by show (5:Int)≠3;decide,by simp [qcg,mkT,h'],by simp [qcg,mkT,h]⟩
theorem qbl7 {c:K} {t:T} {r:List T} (h:Ah c (t :: r)) {n:N} (ht:paW n = true) (hl:n.kids = []) (he:tkP' n = [t]):∃ x,qhc c = some x∧NS x n:=by
 have hk:=h.kind
 have hx:=h.text
 have hm:=h.num
 unfold qhc
 rw [tkP'] at he
 rcases qg6 ht with ⟨h0,h1,h2,h3⟩ | ⟨h0,h1,h2,h3⟩ | ⟨h0,h1,h2,h3⟩ | ⟨h0,h1,h2,h3⟩
 ·rw [if_neg (by omega),if_neg (by omega),hl] at he
  obtain ⟨rfl,_⟩:=List.cons.inj he
  rw [qkn,if_pos h0] at hk hx
  rw [if_pos hk]
  exact ⟨_,rfl,qfw h0.symm h3.symm hx (by rw [hl];rfl)⟩
 ·rw [if_pos h0] at he
  obtain ⟨rfl,_⟩:=List.cons.inj he
  rw [if_neg (by rw [hk];decide),if_neg (by rw [hk];decide),if_neg (by rw [hk];decide),if_pos (by rw [h.is];exact qcb _)]
  exact ⟨_,rfl,qfw h0.symm h3.symm h1.symm (by rw [hl];rfl)⟩
 ·rw [if_neg (by omega),if_pos h0] at he
  obtain ⟨rfl,_⟩:=List.cons.inj he
  rw [if_neg (by rw [hk];show ¬ (3:Int) = 1;decide),if_neg (by rw [hk];show ¬ (3:Int) = 2;decide),if_pos (by rw [hk];rfl)]
  exact ⟨_,rfl,qfw h0.symm hm h1.symm (by rw [hl];rfl)⟩
 ·rw [if_neg (by omega),if_neg (by omega),hl] at he
  obtain ⟨rfl,_⟩:=List.cons.inj he
  rw [qkn,if_neg (by omega)] at hk hx
  rw [if_neg (by rw [hk];show ¬ (2:Int) = 1;decide),if_pos (by rw [hk])]
  exact ⟨_,rfl,qfw h0.symm h3.symm hx (by rw [hl];rfl)⟩
theorem q2a {n:N} (ht:paW n = true) (hl:n.kids = []):∃ t,tkP' n = [t]∧(t.kind = 1∨t.kind = 2∨t.kind = 3∨qcg t [95] = true):=by
 rw [tkP']
 rcases qg6 ht with ⟨h0,h1,h2,h3⟩ | ⟨h0,h1,h2,h3⟩ | ⟨h0,h1,h2,h3⟩ | ⟨h0,h1,h2,h3⟩
 ·rw [if_neg (by omega),if_neg (by omega),hl]
  exact ⟨_,rfl,.inl (by rw [qkn,if_pos h0])⟩
 ·rw [if_pos h0]
  exact ⟨_,rfl,.inr (.inr (.inr (qcb _)))⟩
 ·rw [if_neg (by omega),if_pos h0]
  exact ⟨_,rfl,.inr (.inr (.inl rfl))⟩
 ·rw [if_neg (by omega),if_neg (by omega),hl]
  exact ⟨_,rfl,.inr (.inl (by rw [qkn,if_neg (by omega)]))⟩
theorem qym {n:N} (ht:paW n = true) (hw:(enc n).wf):∃ t s,atPK n = t :: s∧(t.kind = 1∨t.kind = 2∨t.kind = 3∨qcg t [95] = true∨qcg t [40] = true):=by
 cases hl:qbi n with
 | true =>
   obtain ⟨t,e,h⟩:=q2a ht (of_decide_eq_true hl)
   refine ⟨t,[],by rw [atPK,hl,cloK,if_pos rfl,(wdP n ht hw).2,e],?_⟩
   rcases h with h | h | h | h
   ·exact .inl h
   ·exact .inr (.inl h)
   ·exact .inr (.inr (.inl h))
   ·exact .inr (.inr (.inr (.inl h)))
 | false=>exact ⟨_,_,by rw [atPK,hl,cloK,if_neg Bool.false_ne_true],.inr (.inr (.inr (.inr (qcb _))))⟩
theorem qbyu {c:K} {t:T} {r:List T} (h:Ah c (t :: r)) (ht:t.kind = 1∨t.kind = 2∨t.kind = 3∨qcg t [95] = true∨qcg t [40] = true):begP c = true:=by
 unfold begP qhc
 rw [h.kind,h.is,h.is]
 by_cases h1:t.kind = 1
 ·rw [if_pos h1];rfl
 rw [if_neg h1]
 by_cases h2:t.kind = 2
 ·rw [if_pos h2];rfl
 rw [if_neg h2]
 by_cases h3:t.kind = 3
 ·rw [if_pos h3];rfl
 rw [if_neg h3]
 by_cases h4:qcg t [95] = true
 ·rw [if_pos h4];rfl
 rw [if_neg h4]
 rcases ht with e | e | e | e | e
 ·exact absurd e h1
 ·exact absurd e h2
 ·exact absurd e h3
 ·exact absurd e h4
 ·rw [e];simp
theorem qbr6 {c:K} {r:List T} (h:Ah c r) (hr:NoP r):begP c = false:=by
 unfold begP qhc
 cases r with
 | nil =>
   obtain ⟨e1,e2⟩:=Ah.nil h
   rw [e1,e2,e2];rfl
 | cons t s =>
   obtain ⟨h1,h2,h3,h4,h5⟩:=hr t s rfl
   rw [h.kind,h.is,h.is,if_neg h1,if_neg h2,if_neg h3,h4,h5];rfl
section
variable {rec:K->K×Option N}
theorem qbqa {n:N} (ht:paW n = true) (hw:(enc n).wf) {c:K} {r:List T} (h:Ah c (atPK n ++ r)) (hn:qbi n = false->c.nest < 200)
 (ih:qbi n = false->∀ d,Ah d (tkP n ++ mkT [41] :: r)->d.nest = c.nest + 1->Got d (rec d) n (mkT [41] :: r)):Got c (qbk rec c) n r:=by
 unfold qbk
 cases hl:qbi n with
 | true =>
   have hk:n.kids = []:=of_decide_eq_true hl
   obtain ⟨t,e,_⟩:=q2a ht hk
   rw [atPK,hl,cloK,if_pos rfl,(wdP n ht hw).2,e,List.singleton_append] at h
   obtain ⟨x,e1,e2⟩:=qbl7 h ht hk e
   obtain ⟨_,h2,h3⟩:=h.cons
   rw [if_pos (by rw [e1];rfl)]
   exact ⟨x,e1,e2,h2,h3⟩
 | false =>
   rw [atPK,hl,cloK,if_neg Bool.false_ne_true,List.cons_append,List.append_assoc,List.singleton_append] at h
   have hki:=h.kind
   have hlf:qhc c = none:=by
    unfold qhc
    rw [hki,h.is,if_neg (by decide),if_neg (by decide),if_neg (by decide),if_neg (by decide)]
   rw [if_neg (by rw [hlf];decide),if_pos (by rw [h.is];exact qcb _)]
   obtain ⟨n1,n2,n3⟩:=h.enter (hn hl)
   rw [if_pos n1]
   obtain ⟨_,q1,q2⟩:=n2.cons
   obtain ⟨x,g1,g2,g3,g4⟩:=ih hl _ q1 (q2.trans n3)
   rw [if_pos (by rw [g1];rfl),g3.want (qcb _)]
   dsimp only
   rw [if_pos rfl]
   obtain ⟨_,q3,q4⟩:=g3.cons
   obtain ⟨l1,l2⟩:=q3.leave (m:=c.nest) (by rw [q4,g4,q2,n3])
   exact ⟨x,g1,g2,l1,l2⟩
theorem q5o:∀ (l:List N) (f:Nat) (c:K) (acc:List N) (r:List T),(∀ x∈l,paW x = true∧(enc x).wf)->Ah c ((l.map atPK).flatten ++ r)->NoP r->l.length < f →
 (∀ x∈l,qbi x = false->c.nest < 200)->(∀ x∈l,qbi x = false->∀ d s,Ah d (tkP x ++ mkT [41] :: s)->rest d < rest c->d.nest = c.nest + 1->Got d (rec d) x (mkT [41] :: s)) →
 ∃ xs,(qew rec f c acc).2 = some (acc ++ xs)∧xs.map qk = l.map qk∧Ah (qew rec f c acc).1 r∧(qew rec f c acc).1.nest = c.nest
 | l,0,c,acc,r,_,_,_,hf,_,_=>by omega
 | [], f + 1, c, acc, r, _, h, hr, _, _, _ => by
   rw [qew]
   rw [qbr6 (r:=r) h hr,if_neg Bool.false_ne_true]
   exact ⟨[],by simp,rfl,h,rfl⟩
 | x :: l, f + 1, c, acc, r, ht, h, hr, hf, hn, ih => by
   rw [qew]
   rw [List.map_cons,List.flatten_cons,List.append_assoc] at h
   obtain ⟨t,s,e1,e2⟩:=qym (ht x (by simp)).1 (ht x (by simp)).2
   have hb:begP c = true:=by
    rw [e1,List.cons_append] at h
    exact qbyu h e2
   rw [if_pos hb]
   have hlen:=h.len
   obtain ⟨y,g1,g2,g3,g4⟩:=qbqa (rec:=rec) (ht x (by simp)).1 (ht x (by simp)).2 h (hn x (by simp)) fun hlf d hd hdn=>ih x (by simp) hlf d _ hd (by
    rw [hd.len,hlen,atPK,hlf,cloK,if_neg Bool.false_ne_true]
    simp) hdn
   rw [if_pos (by rw [g1];rfl),g1]
   have hl2:rest (qbk rec c).1≤rest c:=by rw [g3.len,hlen];simp
   obtain ⟨xs,k1,k2,k3,k4⟩:=q5o l f _ (acc ++ [y]) r (fun z hz=>ht z (by simp [hz])) g3 hr (by simp at hf;omega) (fun z hz hl=>by rw [g4];exact hn z (by simp [hz]) hl) fun z hz hl d s hd hdr hdn=>ih z (by simp [hz]) hl d s hd (by omega) (by rw [hdn,g4])
   refine ⟨y :: xs,?_,?_,k3,k4.trans g4⟩
   ·dsimp only [Option.getD_some];rw [k1];simp
   ·rw [List.map_cons,List.map_cons,k2];exact congrArg (· :: _) g2
end
theorem qbp1:∀ (f:Nat) (n:N) (c:K) (r:List T),paW n = true->(enc n).wf->Ah c (tkP n ++ r)->NoP r->rest c < f->c.nest + 2 * dp n≤201->Got c (qb6 f c) n r
 | 0,n,c,r,_,_,_,_,hf,_=>by omega
 | f + 1, n, c, r, ht, hw, h, hr, hf, hd => by
   have hp:=qk2 n
   rw [qb6]
   obtain ⟨n1,n2,n3⟩:=h.enter (by omega)
   rw [if_pos n1]
   have hc1:rest (qb c).1 = rest c:=by rw [n2.len,h.len]
   have he:=(wdP n ht hw).2
   by_cases hk:n.kind = 14
   ·obtain ⟨h1,h2,h3⟩:conW n.text = true∧(∀ x∈n.kids,paW x = true)∧n.num = 0:=by
     rcases qg6 ht with ⟨h,_⟩ | ⟨h,_⟩ | ⟨h,_⟩ | ⟨h,h1,h2,h3⟩
     ·omega
     ·omega
     ·omega
     ·exact ⟨h1,h2,h3⟩
    rw [he,tkP',if_neg (by omega),if_neg (by omega),List.cons_append] at n2
    obtain ⟨_,q1,q2⟩:=n2.cons
    have hki:=n2.kind
    have hte:=n2.text
    rw [if_pos (by rw [hki,qkn,if_neg (by omega)])]
    have hlt:rest (qg (qb c).1) < rest (qb c).1:=by rw [q1.len,n2.len];simp
    have hfl:n.kids.length < rest (qb c).1 + 1:=by
     have hp:∀ l:List N,(∀ x∈l,paW x = true∧(enc x).wf)->l.length≤(l.map atPK).flatten.length:=fun l=>by
      induction l with
      | nil=>intro _;exact Nat.le_refl _
      | cons x l ihl =>
        intro hx
        obtain ⟨t,s,e1,_⟩:=qym (hx x (by simp)).1 (hx x (by simp)).2
        have:=ihl fun y hy=>hx y (by simp [hy])
        simp only [List.map_cons,List.flatten_cons,List.length_append,List.length_cons,e1]
        omega
     have:=hp n.kids fun x hx=>⟨h2 x hx,qcf hw hx⟩
     rw [n2.len];simp only [List.length_cons,List.length_append];omega
    obtain ⟨xs,g1,g2,g3,g4⟩:=q5o (rec:=qb6 f) n.kids (rest (qb c).1 + 1) (qg (qb c).1) [] r (fun x hx=>⟨h2 x hx,qcf hw hx⟩) q1 hr hfl (fun x hx hl=>by have:=qcx hx;have:=qk2 x;omega) fun x hx hl d s hd' hdr hdn =>
     qbp1 f x d _ (h2 x hx) (qcf hw hx) hd' (qbo9 (by decide) (by decide)) (by omega) (by have:=qcx hx;omega)
    rw [List.nil_append] at g1
    obtain ⟨l1,l2⟩:=g3.leave (m:=c.nest) (by rw [g4,q2,n3])
    exact ⟨.mk 14 (qp (qb c).1).pos 0 (qp (qb c).1).text xs,by rw [g1];rfl,qfw hk.symm h3.symm hte g2,l1,l2⟩
   ·have hkd:n.kids = []:=by
     rcases qg6 ht with ⟨_,_,h,_⟩ | ⟨_,_,h,_⟩ | ⟨_,_,h,_⟩ | ⟨h,_⟩
     ·exact h
     ·exact h
     ·exact h
     ·exact absurd h hk
    obtain ⟨t,e,hq⟩:=q2a ht hkd
    have hat:atPK n = tkP n:=by rw [atPK,show qbi n = true from decide_eq_true hkd,cloK,if_pos rfl]
    have hk2:(qp (qb c).1).kind≠2:=by
     have n2':=n2
     rw [he,e,List.singleton_append] at n2'
     rw [n2'.kind]
     intro h2
     rw [tkP'] at e
     rcases qg6 ht with ⟨h,_,_,_⟩ | ⟨h,_,_,_⟩ | ⟨h,_,_,_⟩ | ⟨h,_⟩
     ·rw [if_neg (by omega),if_neg (by omega)] at e
      obtain ⟨rfl,_⟩:=List.cons.inj e
      rw [qkn,if_pos h] at h2;revert h2;show (1:Int) = 2->False;decide
     ·rw [if_pos h] at e
      obtain ⟨rfl,_⟩:=List.cons.inj e
      revert h2;decide
     ·rw [if_neg (by omega),if_pos h] at e
      obtain ⟨rfl,_⟩:=List.cons.inj e
      revert h2;show (3:Int) = 2->False;decide
     ·exact absurd h hk
    rw [if_neg hk2]
    rw [← hat] at n2
    obtain ⟨x,g1,g2,g3,g4⟩:=qbqa (rec:=qb6 f) ht hw n2 (fun hl=>by rw [show qbi n = true from decide_eq_true hkd] at hl;cases hl) fun hl=>by rw [show qbi n = true from decide_eq_true hkd] at hl;cases hl
    obtain ⟨l1,l2⟩:=g3.leave (m:=c.nest) (by rw [g4,n3])
    exact ⟨x,g1,g2,l1,l2⟩
end Go.Proofs.YtlmcofjcpadmiaaGreat
