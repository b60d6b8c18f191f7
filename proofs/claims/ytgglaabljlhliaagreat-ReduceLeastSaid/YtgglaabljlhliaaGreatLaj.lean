/- A text of this proof. -/
import Derived.Test.YtgglaabljlhliaaGreatLai
set_option linter.unusedVariables false
set_option linter.unusedSimpArgs false

/-
 The value logic, part q: calls out of a greater state, said by lists; one round of a loop over a function.
-/
namespace Go.V
open Go Go.RowKit

def qhy (H:List Ent) (sel:List Nat) (H1:List Ent):List Ent :=
 qbi H sel ((H1.take sel.length).map (Ent.ren (sg' sel H.length))) ++ (H1.drop sel.length).map (Ent.ren (sg' sel H.length))

section
variable {P:Program} {H H0:List Ent} {f:FuncId} {args0 args:List AV} {fv0 fv:AV} {Q Q':List Ent->VO->Prop}

theorem qmf {sel:List Nat} {k:Nat}:∀ {l:List Ent} {is:List Nat},qgk H sel k l is->∀ i∈is,i < H.length:=by
 intro l is h i hi
 obtain ⟨h1,h2⟩:=qbt h
 obtain ⟨j,hj⟩:=List.mem_iff_getElem?.1 hi
 have hjl:=(List.getElem?_eq_some_iff.1 hj).1
 exact (h2 j _ i (List.getElem?_eq_getElem (by omega)) hj).1

theorem qb7 (sel:List Nat) (h:VCalls P f H0 args0 Q) (hn:sel.Nodup) (he:qgk H sel H0.length H0 sel) (hb:AV.bds H0.length args0 = true) (ha:args = AV.rens (sg sel) args0)
 (hQ:∀ H1 o,Q H1 o->Q' (qhy H sel H1) (o.ren (sg' sel H.length))):VCalls P f H args Q':=by
 subst ha
 obtain ⟨h1,h2⟩:=qbt he
 exact qiq sel h hn (qmf he) h1.symm (fun j e hj=>(h2 j e _ hj (qeo (by have:=(List.getElem?_eq_some_iff.1 hj).1;omega))).2) hb hQ

end

def qb4v:List (Nat×AV)->List Nat->List AV->List (Nat×AV)
 | tm,p :: ps,v :: vs=>qb4v ((p,v) :: tm) ps vs
 | tm,_,_=>tm

def endq (k i:Nat) (Q:List Ent->VO->Prop):VE->AF->List Ent->Prop
 | .nrm, _, H => match ent H i with
   | .lp d as=>fin k Q (H.set i (.lp ⟨.ready,none,d.fn,d.ps,d.asn,d.bd⟩ as)) (.val (.bool true))
   | _=>False
 | .ret, _, H => match ent H i with
   | .lp d as=>fin k Q (H.set i (.lp ⟨.done,some .ret,d.fn,d.ps,d.asn,d.bd⟩ as)) (.val (.bool false))
   | _=>False
 | .ext id, _, H => match ent H i with
   | .lp d as=>fin k Q (H.set i (.lp ⟨.done,some (.exit id),d.fn,d.ps,d.asn,d.bd⟩ as)) (.val (.bool false))
   | _=>False
 | _,_,_=>False

def begq (P:Program) (n m k i l:Nat) (b:IC) (Q:List Ent->VO->Prop):VE->AF->List Ent->Prop
 | .nrm, af, H => match ent H i with
   | .lp ⟨.ready,j,fn,ps,x,y⟩ as=>VI P (some l) n m b (endq k i Q) af (H.set i (.lp ⟨.busy,j,fn,ps,x,y⟩ as))
   | _=>False
 | _,_,_=>False

section
variable {P:Program} {n k i:Nat} {H:List Ent} {a b:IC} {d:LpD} {as args:List AV} {Q:List Ent->VO->Prop}

theorem qb6u {w:World} {M:Nat->Nat->Prop} {G:List Gh} {vs:List Value} (hv:VRs w M G as vs) (hn:as.length = n):RelF w M G n ⟨qbr 0 as,[]⟩ { tmps:=vs.toArray,defers:=[] }:=by
 have hl:=qe hv
 refine ⟨by simp;omega,rfl,fun t=>?_⟩
 simp only [qcb,Nat.zero_le,if_true,Nat.sub_zero]
 by_cases ht:t < as.length
 ·obtain ⟨x,hx,hr⟩:=qb4 hv ht
  have:vs.toArray.getD t undef = x:=by rw [Array.getD_eq_getD_getElem?];simp [hx]
  rw [this];exact hr
 ·have:as.getD t .junk = .junk:=by rw [List.getD_eq_getElem?_getD,List.getElem?_eq_none (by omega)];rfl
  rw [this];trivial

end

/-! ### A row is written no more -/
section
variable {P:Program} {fr:Option Nat} {n m:Nat} {Q:VE->AF->List Ent->Prop} {af:AF} {H:List Ent} {a:IC} {i q:Nat} {es:List AV}

theorem frz {w:World} {M:Nat->Nat->Prop} {G:List Gh} (hst:St w M G H) (he:ent H i = .mrow q es) (hl:es.all (fun e=>(e.isAgg || e.leaf) && e.cells.all AV.leaf) = true) :
 ∃ M',St w M' G (H.set i (.app q es))∧Ext w M G w M' G:=by
 have hH:=q9 he (by simp)
 obtain ⟨g,hg⟩:=hst.lenH hH
 obtain ⟨h1,h2,h3⟩:=hst.ok i g _ hg hH
 let M':Nat->Nat->Prop:=fun b o=>M b o∨(b = g.blk∧o < q * es.length)
 have hle:Le w M w M':=fun b o hm=>⟨.inl hm,rfl⟩
 have hone:∀ o,o < q * es.length->∀ v,w.cell? ⟨g.blk,o,none⟩ = some v->v.oneCell' = true:=by
  intro o ho v hv
  obtain ⟨_,_,vs,t,us,r1,r2,r3,r4,r5⟩:=h2
  rw [qdu r1] at hv
  have hx:(vs.take (q * es.length))[o]? = some v:=by rw [List.getElem?_take_of_lt ho];exact hv
  rw [r5] at hx
  obtain ⟨u,hu,hvu⟩:=List.mem_flatMap.1 (List.mem_of_getElem? hx)
  obtain ⟨j,hj⟩:=List.mem_iff_getElem?.1 hu
  have hjl:=(List.getElem?_eq_some_iff.1 hj).1
  have hlen:=qe r3
  obtain ⟨u',s1,s2⟩:=qb4 r3 (i:=j) (by omega)
  rw [hj] at s1
  simp only [Option.some.injEq] at s1;subst s1
  have hmem:es.getD j .junk∈es:=by
   rw [List.getD_eq_getElem?_getD,List.getElem?_eq_getElem (by omega)];exact List.getElem_mem _
  have hq:=List.all_eq_true.1 hl _ hmem
  simp only [Bool.and_eq_true,Bool.or_eq_true] at hq
  exact qku (qdb s2 hq.1) hq.2 v hvu
 have hext:Ext w M G w M' G:=⟨rfl,rfl,rfl,Nat.le_refl _,fun j g h=>⟨g,h,rfl⟩,hle,fun _ _ _=>rfl,fun b hb=>.inl hb,fun b o hm=>by
  rcases hm with hm | ⟨rfl,ho⟩
  ·exact .inl hm
  ·exact .inr (.inl ⟨i,g,hg,(h1 _).2 rfl⟩)⟩
 refine ⟨M',?_,hext⟩
 have:=qil (w':=w) (M':=M') (g':=g) (e:=.app q es) hst hg rfl (fun _ h=>h) (Nat.le_refl _) (fun _ _ _=>rfl) hle (fun b o hm=>by
  rcases hm with hm | ⟨rfl,ho⟩
  ·exact .inl hm
  ·exact .inr ⟨(h1 _).2 rfl,hone o ho⟩) (by
   rw [qel _ _ _ hg]
   obtain ⟨a1,a2,vs,t,us,r1,r2,r3,r4,r5⟩:=h2
   exact ⟨h1,⟨a1,a2,vs,t,us,r1,r2,r3.ext hext,r4,r5⟩,fun o=>⟨fun hm=>by
    rcases hm with hm | ⟨_,ho⟩
    ·exact absurd hm (h3 o)
    ·exact ho,fun ho=>.inr ⟨rfl,ho⟩⟩⟩)
 rwa [qel _ _ _ hg] at this

theorem qbd1 (i:Nat) {q:Nat} {es:List AV} (he:ent H i = .mrow q es) (hl:es.all (fun e=>(e.isAgg || e.leaf) && e.cells.all AV.leaf) = true) (h:VI P fr n m a Q af (H.set i (.app q es))):VI P fr n m a Q af H:=by
 intro c hc w M G act hst hr
 obtain ⟨M',h1,h2⟩:=frz hst he hl
 exact qkz (h c hc) h1 (hr.ext h2) h2.toM
end

/-! ### Scopes and labels (no jump) -/
section
variable {P:Program} {fr:Option Nat} {n m:Nat} {Q:VE->AF->List Ent->Prop} {af:AF} {H:List Ent} {a:IC}

theorem qbdb {l:Nat} (h:Q .nrm af H):VI P fr n m (.label l) Q af H:=by
 intro c hc
 have:c = .label l:=by
  cases c<;>simp only [qce] at hc<;>first | (simp at hc;rw [hc];done) | (exfalso;(repeat' split at hc)<;>simp at hc)
 subst this
 exact fun w M G a hst hr=>wpIn_label ⟨.nrm,af,M,G,H,h,rfl,ExtM.refl,hst,hr⟩

theorem qec {b:Frame} {a:Act} {k:List Item} {cs:List Frame} {w:World} {c:Code}:step P (lone (b.atR a (.code (.scope c) :: k)) cs w) = .next (lone (b.atR a (.code c :: .inScope c :: k)) cs w) :=
 step_lone_go (by simp [stepG,stepG.exec,Frame.atR])
theorem qhn {b:Frame} {a:Act} {k:List Item} {cs:List Frame} {w:World} {c:Code}:step P (lone (b.atR a (.inScope c :: k)) cs w) = .next (lone (b.atR a k) cs w) :=
 step_lone_go (by simp [stepG,stepG.exec,Frame.atR])

def scq (Q:VE->AF->List Ent->Prop):VE->AF->List Ent->Prop
 | .gto _,_,_=>False
 | e,af,H=>Q e af H

theorem q7i (h:VI P fr n m a (scq Q) af H):VI P fr n m (.scope a) Q af H:=by
 intro c hc
 cases c<;>simp only [qce] at hc
 case scope x =>
  obtain ⟨x',hx,hxx⟩:=Option.map_eq_some_iff.1 hc
  simp only [IC.scope.injEq] at hxx
  subst hxx
  intro w M G act hst hr b k cs hro hb hroom
  obtain ⟨e,a₁,w₁,hq,harr⟩:=h x hx w M G act hst hr b (.inScope x :: k) cs hro hb hroom
  obtain ⟨ve,af',M',G',H',h1,h2,h3,h4,h5⟩:=hq
  have h0:(lone (b.atR act (.code (.scope x) :: k)) cs w).fenced P (fw fr):=fenced_calm hb hroom rfl
  have hp:∀ hng:(∀ l,ve≠.gto l),VPost Q n m w M G e a₁ w₁:=fun hng=>⟨ve,af',M',G',H',by cases ve<;>first | exact h1 | exact absurd rfl (hng _),h2,h3,h4,h5⟩
  cases ve with
  | gto l=>exact h1.elim
  | nrm =>
    have h2:e = .normal:=h2
    subst h2
    exact ⟨.normal,a₁,w₁,hp (by simp),.head h0 qec (StepsIn.trans harr (.one (fenced_calm hb hroom rfl) qhn))⟩
  | ext i =>
    have h2:e = .exit i:=h2
    subst h2
    exact ⟨.exit i,a₁,w₁,hp (by simp),.of_steps (.one h0 qec) ⟨fun k' hk=>harr.1 k' (by simpa [exitTo] using hk),fun hr hk=>harr.2 hr (by simpa [exitTo] using hk)⟩⟩
  | ret =>
    have h2:e = .ret:=h2
    subst h2
    exact ⟨.ret,a₁,w₁,hp (by simp),.of_steps (.one h0 qec) harr⟩
  | pan v =>
    obtain ⟨y,rfl,hy⟩:=h2
    exact ⟨_,a₁,w₁,hp (by simp),.of_steps (.one h0 qec) harr⟩
 all_goals (exfalso;(repeat' split at hc)<;>simp at hc)

theorem qbo6 {Q:VE->AF->List Ent->Prop} (af:AF) (H:List Ent):scq Q .nrm af H = Q .nrm af H:=Eq.trans rfl rfl
theorem qbic {Q:VE->AF->List Ent->Prop} (i:Nat) (af:AF) (H:List Ent):scq Q (.ext i) af H = Q (.ext i) af H:=Eq.trans rfl rfl
theorem qbvu {Q:VE->AF->List Ent->Prop} (af:AF) (H:List Ent):scq Q .ret af H = Q .ret af H:=Eq.trans rfl rfl
theorem qbpq {Q:VE->AF->List Ent->Prop} (v:AV) (af:AF) (H:List Ent):scq Q (.pan v) af H = Q (.pan v) af H:=Eq.trans rfl rfl
attribute [go_sem] qbo6 qbic qbvu qbpq
end

/-! ### States with a front that stays -/
theorem Ent.bd_le {k k':Nat} (h:k≤k') (e:Ent) (hb:e.bd k = true):e.bd k' = true:=by
 cases e<;>simp only [Ent.bd] at hb ⊢<;>exact qcs h _ hb
theorem Ent.ren_same {σ:Nat->Nat} {m:Nat} (hσ:∀ i,i < m->σ i = i) (e:Ent) (hb:e.bd m = true):e.ren σ = e:=by
 cases e<;>simp only [Ent.bd,Ent.ren] at hb ⊢<;>rw [ql hσ _ hb]
theorem VO.ren_same {σ:Nat->Nat} {m:Nat} (hσ:∀ i,i < m->σ i = i) (o:VO) (hb:o.bd m = true):o.ren σ = o:=by
 cases o<;>simp only [VO.bd,VO.ren] at hb ⊢<;>rw [Go.V.ren_same hσ _ hb]

theorem qpi {H0 L:List Ent} {x:Ent} {m:Nat} (h:H0.length = m):ent (H0 ++ x :: L) m = x:=by
 subst h
 induction H0 with
 | nil=>rfl
 | cons e r ih=>exact ih
section
variable {P:Program} {H0 L:List Ent} {f:FuncId} {args:List AV} {fv:AV} {Q0 Q:List Ent->VO->Prop}

end

theorem q81 {H0 L:List Ent} {x y:Ent} {m:Nat} (h:H0.length = m):ent (H0 ++ x :: y :: L) (m + 1) = y:=by
 have:=qpi (H0:=H0 ++ [x]) (L:=L) (x:=y) (m:=m + 1) (by simp [h])
 simpa using this
theorem qbbk {H0 L:List Ent} {x y z:Ent} {m:Nat} (h:H0.length = m):ent (H0 ++ x :: y :: z :: L) (m + 2) = z:=by
 have:=qpi (H0:=H0 ++ [x,y]) (L:=L) (x:=z) (m:=m + 2) (by simp [h])
 simpa using this
theorem qpd {H0 L:List Ent} {x e:Ent} {m:Nat} (h:H0.length = m):(H0 ++ x :: L).set m e = H0 ++ e :: L:=by subst h;simp
theorem q6s {H0 L:List Ent} {x y e:Ent} {m:Nat} (h:H0.length = m):(H0 ++ x :: y :: L).set (m + 1) e = H0 ++ x :: e :: L:=by
 have:=qpd (H0:=H0 ++ [x]) (L:=L) (x:=y) (e:=e) (m:=m + 1) (by simp [h])
 simpa using this
theorem qbc4 {H0 L:List Ent} {x y z e:Ent} {m:Nat} (h:H0.length = m):(H0 ++ x :: y :: z :: L).set (m + 2) e = H0 ++ x :: y :: e :: L:=by
 have:=qpd (H0:=H0 ++ [x,y]) (L:=L) (x:=z) (e:=e) (m:=m + 2) (by simp [h])
 simpa using this
def tmS (tm:List (Nat×AV)) (k:Nat):List (Nat×AV)->Prop
 | []=>True
 | (t,v) :: r=>(v.bd k = true∧get tm t = v)∧tmS tm k r

theorem qw7 {tm:List (Nat×AV)} {k:Nat}:∀ {l:List (Nat×AV)},tmS tm k l->∀ t,get l t = .junk∨((get l t).bd k = true∧get tm t = get l t)
 | [],_,t=>.inl rfl
 | (s, v) :: r, h, t => by
   obtain ⟨⟨h1,h2⟩,h3⟩:=h
   simp only [get]
   by_cases hst:s = t
   ·subst hst;rw [if_pos rfl];exact .inr ⟨h1,h2⟩
   ·rw [if_neg hst];exact qw7 h3 t

theorem qbei {S:Type} {Inv:S->Prop} {st:S->AF×List Ent} {m:Nat} {af:AF} {H:List Ent} (s:S) (L:List Ent) (hs:Inv s) (hm:m≤(st s).2.length) (hH:H = (st s).2 ++ L) (hb:(st s).2.all (Ent.bd (st s).2.length) = true)
 (ht:tmS af.tm (st s).2.length (st s).1.tm) (hd:af.dl = (st s).1.dl) (hdb:(st s).1.dl.all (AD.bd (st s).2.length) = true):At S Inv st m af H:=by
 refine ⟨s,hs,id,fun i _=>rfl,hm,fun i j _ _ e=>e,fun j e he=>.inr ⟨List.all_eq_true.1 hb e (List.mem_of_getElem? he),?_⟩,fun j hj=>?_,fun t=>?_,fun d hd'=>List.all_eq_true.1 hdb d hd',?_⟩
 ·have hj:=(List.getElem?_eq_some_iff.1 he).1
  rw [hH,id,List.getElem?_append_left hj,he,Ent.ren_id]
 ·rw [hH];simp;omega
 ·rcases qw7 ht t with h | ⟨h1,h2⟩
  ·exact .inl h
  ·exact .inr ⟨h1,by rw [h2,AV.ren_id]⟩
 ·rw [hd]
  conv=>lhs;rw [← List.map_id (st s).1.dl]
  refine List.map_congr_left fun d _=>?_
  cases d<;>simp only [AD.ren,id,AV.ren_id,AV.rens_id]

theorem qb {i:Nat} (h:i < maxLen):IntKind.i64.wrap ((i:Int) + 1) = ((i + 1:Nat):Int):=by
 rw [qo9 (by omega) (by omega)];rfl
theorem qkt {α:Type} {l:List α} (h:¬ l = []):0 < l.length:=by cases l<;>simp_all
theorem ev_ {p q:Prop} (h:q) (e:p = q:=by simp only [go_sem,↓reduceIte];exact rfl):p:=by rw [e];exact h
theorem cj_ {a b:Prop} (h:b) (ha:a:=by first | assumption | omega | (have:=qkt (by assumption);omega) | (unfold qbb;omega)):a∧b:=⟨ha,h⟩
theorem hb_:(∀ b:Bool,((!b) = true) = (b = false))∧(∀ b:Bool,((!b) = false) = (b = true))∧(∀ (p:Prop) [Decidable p],(decide p = true) = p)∧(∀ (p:Prop) [Decidable p],(decide p = false) = ¬ p)∧(∀ a b:Bool,((a && b) = true) = (a = true∧b = true)) :=
 ⟨fun b=>by cases b<;>simp,fun b=>by cases b<;>simp,fun p _=>by simp,fun p _=>by simp,fun a b=>by simp⟩
theorem nat0:((0:Nat):Int) = 0:=rfl
theorem nat1:((1:Nat):Int) = 1:=rfl
attribute [go_sem] decide_true decide_false nat0 nat1 Nat.zero_le Nat.le_refl
attribute [go_sem] List.append_assoc List.all_append Nat.le_add_right
theorem zget {l:List AV} {t:Nat}:get (qbr 0 l) t = l.getD t .junk:=by rw [qcb,if_pos (Nat.zero_le _),Nat.sub_zero]
theorem qbb9 {P:Program} {f:FuncId} {H:List Ent} {args:List AV} {Q0 Q:List Ent->VO->Prop} (h:VCalls P f [] args Q0) (ha:AV.bds 0 args = true) (hQ:∀ H1 o,Q0 H1 o->Q (qhy H [] H1) (o.ren (sg' [] H.length))):VApp P H (.fn f [] []) args Q :=
 qcu (first:=[]) (caps:=[]) (by
  simp only [List.nil_append,List.append_nil]
  exact qb7 [] h List.nodup_nil trivial ha (by rw [ql (m:=0) (fun i hi=>by omega) _ ha]) hQ)
def tmBd (k:Nat):List (Nat×AV)->Bool
 | []=>true
 | (_,v) :: r=>v.bd k && tmBd k r
attribute [go_sem] tmBd
attribute [go_sem] qhy VO.ren
attribute [go_sem] Bool.not_false Bool.not_true Bool.true_or Bool.or_true Bool.false_or Bool.or_false List.isEmpty_cons List.isEmpty_nil
attribute [go_sem] zget begq endq ranq
attribute [go_sem] qpi q81 qbbk qpd q6s qbc4 tmS qb4v List.length_append
end Go.V
