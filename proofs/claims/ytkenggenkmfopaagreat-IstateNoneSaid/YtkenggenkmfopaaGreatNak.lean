/- Texts of this proof, joined. -/
import Derived.Test.YtkenggenkmfopaaGreatNaj
import Derived.ScopeJumps
set_option linter.unusedVariables false
set_option linter.unusedSimpArgs false

/-
 The value logic, part r: scopes in which the run jumps back to a label; a goto.
-/
namespace Go.V
open Go Go.RowKit

def qky:IC->Nat->Option IC
 | .seq a b, l => match qky a l with
   | some r=>some (.seq r b)
   | none=>qky b l
 | .label l',l=>if l' == l then some .skip else none
 | _,_=>none

theorem qup {P:Program} {n l:Nat}:∀ {c:Code} {ic:IC},qbt P n c = some ic->(qky ic l = none->findLabel c l = none)∧∀ r,qky ic l = some r->∃ rest,findLabel c l = some rest∧qbt P n rest = some r:=by
 intro c
 induction c with
 | seq a b iha ihb =>
   intro ic hc
   simp only [qbt] at hc
   split at hc
   ·rename_i x y hx hy
    simp only [Option.some.injEq] at hc
    subst hc
    obtain ⟨a1,a2⟩:=iha hx
    obtain ⟨b1,b2⟩:=ihb hy
    simp only [qky,findLabel]
    cases hf:qky x l with
    | none =>
      rw [a1 hf]
      exact ⟨fun h=>b1 h,fun r h=>b2 r h⟩
    | some r =>
      obtain ⟨rest,h1,h2⟩:=a2 r hf
      rw [h1]
      refine ⟨fun h=>(by cases h),fun r' h=>?_⟩
      simp only [Option.some.injEq] at h
      subst h
      exact ⟨_,rfl,by simp only [qbt,h2,hy]⟩
   ·cases hc
 | label l' =>
   intro ic hc
   simp only [qbt,Option.some.injEq] at hc
   subst hc
   simp only [qky,findLabel]
   by_cases h:(l' == l) = true
   ·rw [if_pos h,if_pos h]
    exact ⟨fun h=>(by cases h),fun r hr=>⟨.skip,rfl,by simp only [Option.some.injEq] at hr;subst hr;rfl⟩⟩
   ·rw [if_neg h,if_neg h]
    exact ⟨fun _=>rfl,fun r hr=>(by cases hr)⟩
 | _ =>
   intro ic hc
   refine ⟨fun _=>rfl,fun r hr=>?_⟩
   exfalso
   simp only [qbt] at hc
   repeat' split at hc
   all_goals first
    | (cases hc;done)
    | (simp only [Option.some.injEq] at hc;subst hc;simp only [qky] at hr;cases hr;done)
    | (rcases Option.or_eq_some_iff.1 hc with hc | ⟨_,hc⟩<;>(obtain ⟨y,_,hc⟩:=Option.map_eq_some_iff.1 hc;subst hc;simp only [qky] at hr;cases hr);done)
    | (obtain ⟨y,_,hc⟩:=Option.map_eq_some_iff.1 hc;subst hc;simp only [qky] at hr;cases hr;done)

def scj {S:Type} (l:Nat) (Inv:S->Prop) (st:S->AF×List Ent) (m:Nat) (Q:VE->AF->List Ent->Prop):VE->AF->List Ent->Prop
 | .gto l',af,H=>l' = l∧At S Inv st m af H
 | e,af,H=>Q e af H

section
variable {P:Program} {fr:Option Nat} {n m:Nat} {Q:VE->AF->List Ent->Prop} {af:AF} {H:List Ent} {a:IC}

theorem qbk4 {l:Nat} (h:Q (.gto l) af H):VI P fr n m (.goto l) Q af H:=by
 intro c hc
 have:c = .goto l:=by
  cases c<;>simp only [qbt] at hc<;>first | (simp at hc;rw [hc];done) | (exfalso;(repeat' split at hc)<;>simp at hc)
 subst this
 exact fun w M G a hst hr=>wpIn_goto ⟨.gto l,af,M,G,H,h,rfl,ExtM.refl,hst,hr⟩

theorem qxd {S:Type} (l:Nat) {r:IC} (hf:qky a l = some r) (Inv:S->Prop) (st:S->AF×List Ent) (μ:S->Nat) (h0:VI P fr n m a (scj l Inv st m Q) af H)
 (hr:∀ s,Inv s->VI P fr n m r (scj l (fun s'=>Inv s'∧μ s' < μ s) st m Q) (st s).1 (st s).2):VI P fr n m (.scope a) Q af H:=by
 intro c hc
 cases c<;>simp only [qbt] at hc
 case scope x =>
  obtain ⟨x',hx,hxx⟩:=Option.map_eq_some_iff.1 hc
  simp only [IC.scope.injEq] at hxx
  subst hxx
  obtain ⟨rest,hrest,hcr⟩:=(qup hx).2 r hf
  intro w M G act hst hrf b k cs hro hb hroom
  have hg:gotoIn l (.inScope x :: k) = some (.code rest :: .inScope x :: k):=by simp [gotoIn,hrest]
  have hsc:step P (lone (b.atR act (.code (.scope x) :: k)) cs w) = .next (lone (b.atR act (.code x :: .inScope x :: k)) cs w):=qdi
  let I:S->Act->World->Prop:=fun s a' w'=>Inv s∧∃ M' G',ExtM m w M G w' M' G'∧St w' M' G' (st s).2∧RelF w' M' G' n (st s).1 a'
  have hI:∀ {af₁:AF} {H₁:List Ent} {a₁:Act} {w₁:World} {M₁:Nat->Nat->Prop} {G₁:List Gh} {J:S->Prop},(∀ s,J s->Inv s)->At S J st m af₁ H₁->ExtM m w M G w₁ M₁ G₁->St w₁ M₁ G₁ H₁->RelF w₁ M₁ G₁ n af₁ a₁->∃ s,J s∧I s a₁ w₁:=by
   intro af₁ H₁ a₁ w₁ M₁ G₁ J hJ hat he hs hf
   obtain ⟨s,h1,h2⟩:=hat
   obtain ⟨G₂,q1,q2,q3⟩:=qna hs hf h2
   exact ⟨s,h1,hJ s h1,M₁,G₂,he.trans q1,q2,q3⟩
  -- how the inner code is left
  have out:∀ {J:S->Prop} {e:Exit} {a₁:Act} {w₁:World} {m0:Machine},(∀ s,J s->Inv s)->VPost (scj l J st m Q) n m w M G e a₁ w₁->ArrivesIn (Machine.fenced P (fw fr)) P m0 b (.inScope x :: k) cs e a₁ w₁ →
   (∃ e' a' w',VPost Q n m w M G e' a' w'∧ArrivesIn (Machine.fenced P (fw fr)) P m0 b k cs e' a' w')∨(∃ s,J s∧I s a₁ w₁∧StepsIn (Machine.fenced P (fw fr)) P m0 (lone (b.atR a₁ (.code rest :: .inScope x :: k)) cs w₁)):=by
   intro J e a₁ w₁ m0 hJ hq harr
   obtain ⟨ve,af',M',G',H',h1,h2,h3,h4,h5⟩:=hq
   cases ve with
   | gto l' =>
     have h2:e = .goto l':=h2
     subst h2
     obtain ⟨rfl,hat⟩:=h1
     obtain ⟨s,hs,hIs⟩:=hI hJ hat h3 h4 h5
     exact .inr ⟨s,hs,hIs,harr.1 _ hg⟩
   | nrm =>
     have h2:e = .normal:=h2
     subst h2
     exact .inl ⟨.normal,a₁,w₁,⟨.nrm,af',M',G',H',h1,rfl,h3,h4,h5⟩,StepsIn.trans harr (.one (fenced_calm hb hroom rfl) qg4)⟩
   | ext i =>
     have h2:e = .exit i:=h2
     subst h2
     exact .inl ⟨.exit i,a₁,w₁,⟨.ext i,af',M',G',H',h1,rfl,h3,h4,h5⟩,⟨fun k' hk=>harr.1 k' (by simpa [exitTo] using hk),fun hr hk=>harr.2 hr (by simpa [exitTo] using hk)⟩⟩
   | ret =>
     have h2:e = .ret:=h2
     subst h2
     exact .inl ⟨.ret,a₁,w₁,⟨.ret,af',M',G',H',h1,rfl,h3,h4,h5⟩,harr⟩
   | pan v =>
     obtain ⟨y,rfl,hy⟩:=h2
     exact .inl ⟨_,a₁,w₁,⟨.pan v,af',M',G',H',h1,⟨y,rfl,hy⟩,h3,h4,h5⟩,harr⟩
  have key:∀ (j:Nat) (s:S) (a₁:Act) (w₁:World),μ s = j->I s a₁ w₁->∃ e a' w',VPost Q n m w M G e a' w'∧ArrivesIn (Machine.fenced P (fw fr)) P (lone (b.atR a₁ (.code rest :: .inScope x :: k)) cs w₁) b k cs e a' w':=by
   intro j
   induction j using Nat.strongRecOn with
   | _ j ih =>
     intro s a₁ w₁ hj ⟨hinv,M₁,G₁,he,hs,hf⟩
     obtain ⟨e,a₂,w₂,hq,harr⟩:=qk4 (hr s hinv rest hcr) hs hf he b (.inScope x :: k) cs hro hb hroom
     rcases out (fun s h=>h.1) hq harr with h | ⟨s',hs',hI',hst'⟩
     ·exact h
     ·obtain ⟨e₂,a₃,w₃,hq₂,harr₂⟩:=ih (μ s') (hj ▸ hs'.2) s' a₂ w₂ rfl hI'
      exact ⟨e₂,a₃,w₃,hq₂,.of_steps hst' harr₂⟩
  have hc0:(lone (b.atR act (.code (.scope x) :: k)) cs w).fenced P (fw fr):=fenced_calm hb hroom rfl
  obtain ⟨e,a₁,w₁,hq,harr⟩:=h0 x hx w M G act hst hrf b (.inScope x :: k) cs hro hb hroom
  rcases out (fun s h=>h) hq (.of_steps (.one hc0 hsc) harr) with h | ⟨s',hs',hI',hst'⟩
  ·exact h
  ·obtain ⟨e₂,a₃,w₃,hq₂,harr₂⟩:=key _ s' a₁ w₁ rfl hI'
   exact ⟨e₂,a₃,w₃,hq₂,.of_steps hst' harr₂⟩
 all_goals (exfalso;(repeat' split at hc)<;>simp at hc)

theorem qbej {S:Type} {l:Nat} {Inv:S->Prop} {st:S->AF×List Ent} (af:AF) (H:List Ent):scj l Inv st m Q .nrm af H = Q .nrm af H:=Eq.trans rfl rfl
theorem qbjz {S:Type} {l i:Nat} {Inv:S->Prop} {st:S->AF×List Ent} (af:AF) (H:List Ent):scj l Inv st m Q (.ext i) af H = Q (.ext i) af H:=Eq.trans rfl rfl
theorem q89 {S:Type} {l:Nat} {Inv:S->Prop} {st:S->AF×List Ent} (af:AF) (H:List Ent):scj l Inv st m Q .ret af H = Q .ret af H:=Eq.trans rfl rfl
theorem qbjl {S:Type} {l l':Nat} {Inv:S->Prop} {st:S->AF×List Ent} (af:AF) (H:List Ent):scj l Inv st m Q (.gto l') af H = (l' = l∧At S Inv st m af H):=Eq.trans rfl rfl
theorem qbsp {b:IC} (l:Nat) (af:AF) (H:List Ent):sq P fr n m b Q (.gto l) af H = Q (.gto l) af H:=Eq.trans rfl rfl
theorem qbdk {id l:Nat} (af:AF) (H:List Ent):blq id Q (.gto l) af H = Q (.gto l) af H:=Eq.trans rfl rfl
theorem qbuz {S:Type} {Inv:S->Prop} {st:S->AF×List Ent} {l:Nat} (af:AF) (H:List Ent):lq Inv st m Q (.gto l) af H = Q (.gto l) af H:=Eq.trans rfl rfl
attribute [go_sem] qbej qbjz q89 qbjl qbsp qbdk qbuz
end
theorem ti_:True:=⟨⟩
theorem vs_ {p q:Prop} (h:q) (e:q->p:=by first | exact qi8 | exact q7a | exact q4x):p:=e h
theorem vr_ {p q:Prop} (h:q) (e:q->p:=by first | exact qly | exact qbe1 (by rfl) | exact q0y | exact q11 | exact qbk4 | exact q8v | exact qbdj | exact qbkt | exact qbcs):p:=e h
inductive Pk (c:Bool) (p:Prop):Prop where | mk
theorem qbzm {P:Program} {Q:VE->AF->List Ent->Prop} {c b:Bool} {d:Option Nat} {i:I} {k:Kt} {af:AF} {H:List Ent}:Pk c (gdK P Q (.bool c) b d i k af H):=.mk
theorem qbta {c:Bool} {A B:Prop}:Pk c (cnd (.bool c) A B):=.mk
theorem cs_ {c:Bool} {p x y a b:Prop} (h1:x->a) (h2:y->b) (_e:Pk c p:=by first | exact qbzm | exact qbta)
 (ex:(c = true) = x:=by first | (simp only [hb_];exact rfl) | exact rfl) (ey:(c = false) = y:=by first | (simp only [hb_];exact rfl) | exact rfl)
 (ea:c = true->p = a:=by intro hc;first | (simp only [hc];exact rfl) | exact rfl) (eb:c = false->p = b:=by intro hc;first | (simp only [hc];exact rfl) | exact rfl):p:=by
 cases c
 ·rw [eb rfl];exact h2 (ey ▸ rfl)
 ·rw [ea rfl];exact h1 (ex ▸ rfl)

def panw (Q:List Ent->VO->Prop) (v:AV) (H:List Ent):Prop:=Q H (.pan v)

def endw (i:Nat) (Q:List Ent->VO->Prop):VE->AF->List Ent->Prop
 | .nrm, _, H => match ent H i with
   | .lp d as=>Q (H.set i (.lp ⟨.ready,none,d.fn,d.ps,d.asn,d.bd⟩ as)) (.val (.bool true))
   | _=>False
 | .ret, _, H => match ent H i with
   | .lp d as=>Q (H.set i (.lp ⟨.done,some .ret,d.fn,d.ps,d.asn,d.bd⟩ as)) (.val (.bool false))
   | _=>False
 | .ext id, _, H => match ent H i with
   | .lp d as=>Q (H.set i (.lp ⟨.done,some (.exit id),d.fn,d.ps,d.asn,d.bd⟩ as)) (.val (.bool false))
   | _=>False
 | _,_,_=>False
def begw (P:Program) (n m i l:Nat) (b:IC) (Q:List Ent->VO->Prop):VE->AF->List Ent->Prop
 | .nrm, af, H => match ent H i with
   | .lp ⟨.ready,j,fn,ps,x,y⟩ as=>VI P (some l) n m b (endw i Q) af (H.set i (.lp ⟨.busy,j,fn,ps,x,y⟩ as))
   | _=>False
 | _,_,_=>False



/-! ### States that grow -/
def gro (n k:Nat) (i:Nat):Nat:=if i < n then i else i + k
def grow (n:Nat) (L H1:List Ent):List Ent:=(H1.take n).map (Ent.ren (gro n L.length)) ++ L ++ (H1.drop n).map (Ent.ren (gro n L.length))


theorem qu? {H:List Ent} {i:Nat}:ent H i = (H[i]?).getD .dead:=by
 induction H generalizing i with
 | nil=>rfl
 | cons e r ih => cases i with
   | zero=>rfl
   | succ i=>rw [List.getElem?_cons_succ];exact ih
theorem qwf {H:List Ent} {i j:Nat} {e:Ent} (h:i≠j):ent (H.set i e) j = ent H j:=by
 rw [qu?,qu?,List.getElem?_set_ne h]

/-! ### What every state obeys -/
theorem q6e {w:World} {M:Nat->Nat->Prop} {G:List Gh} {g:Gh} {e:Ent} (h:qf4 w M G g e):e.bd G.length = true:=by
 cases e with
 | dead=>rfl
 | blk cs=>obtain ⟨_,⟨vs,t,_,h3⟩,_⟩:=h;exact qcz _ _ h3
 | app n es=>obtain ⟨_,⟨_,_,_,_,_,_,_,h5,_⟩,_⟩:=h;exact qcz _ _ h5
 | mrow n es=>obtain ⟨_,⟨_,_,_,_,_,_,_,h5,_⟩,_⟩:=h;exact qcz _ _ h5
 | lp d as=>obtain ⟨_,⟨vs,_,h3⟩,_⟩:=h;exact qcz _ _ h3
 | cus R=>rfl
section
variable {P:Program} {fr:Option Nat} {n m:Nat} {a:IC} {Q:VE->AF->List Ent->Prop} {af:AF} {H:List Ent} {fv:AV} {f:FuncId} {args:List AV} {R:List Ent->VO->Prop}
theorem qt8 {w:World} {M:Nat->Nat->Prop} {G:List Gh} (hst:St w M G H) {c:Co}:∀ {cs:List AV} {vs:List Value} {k:Nat},VRs w M G cs vs->VRs w M G (cs.set k (co H c (cs.getD k .junk))) vs
 | [],vs,k,h=>h
 | v :: cs,vs,0,⟨x,r,h1,h2,h3⟩=>⟨x,r,h1,qcp hst c v x h2,h3⟩
 | v :: cs,vs,k + 1,⟨x,r,h1,h2,h3⟩=>⟨x,r,h1,h2,qt8 hst h3⟩
theorem q0m (j k:Nat) (c:Co) {cs:List AV} (he:ent H j = .blk cs) (h:VI P fr n m a Q af (H.set j (.blk (cs.set k (co H c (cs.getD k .junk)))))):VI P fr n m a Q af H:=by
 intro z hz w M G act hst hr
 have hH:=qu he (by simp)
 obtain ⟨g,hg⟩:=hst.lenH hH
 obtain ⟨h1,⟨vs,t,h2,h3⟩,h4⟩:=hst.ok j g _ hg hH
 have hv:VRs w M G (cs.set k (co H c (cs.getD k .junk))) vs:=qt8 hst h3
 have hs:=qe9 (w':=w) (M':=M) (g':=g) (e:=.blk (cs.set k (co H c (cs.getD k .junk)))) hst hg rfl (fun _ h=>h) (Nat.le_refl _) (fun _ _ _=>rfl) (Le.refl w M) (fun _ _ h=>.inl h) (by rw [qcy _ _ _ hg];exact ⟨h1,⟨vs,t,h2,hv⟩,h4⟩)
 rw [qcy _ _ _ hg] at hs
 exact qk4 (h z hz) hs hr ExtM.refl
end
attribute [go_sem] panw begw endw
end Go.V

/-
 The value logic, part t: rows that grow from none.
-/
namespace Go.V
open Go Go.RowKit

def accV (r:Nat) (es:List AV):AV :=
 match es with
 | []=>.nils
 | _ :: _=>.row r es.length
def accE (n:Nat) (es:List AV):List Ent :=
 match es with
 | []=>[]
 | _ :: _=>[.app n es]
section
variable {r n:Nat} {es fs:List AV} {x:AV}
theorem qer:accV r [] = .nils:=rfl
theorem qi3:accE n [] = []:=rfl
theorem qgi (h:es≠[]):accV r es = .row r es.length:=by cases es with | nil=>exact absurd rfl h | cons _ _=>rfl
theorem qj3 (h:es≠[]):accE n es = [.app n es]:=by cases es with | nil=>exact absurd rfl h | cons _ _=>rfl
theorem qgm:accV r (es ++ [x]) = .row r (es.length + 1):=by rw [qgi (by simp)];simp
theorem qo5:accE n (es ++ [x]) = [.app n (es ++ [x])]:=qj3 (by simp)
theorem qiz:accV r [x] = .row r 1:=rfl
theorem qtu:accE n [x] = [.app n [x]]:=rfl
end
attribute [go_sem] qer qi3 qgm qo5 qiz qtu
end Go.V
