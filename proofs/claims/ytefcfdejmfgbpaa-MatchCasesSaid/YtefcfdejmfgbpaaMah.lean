/- Texts of this proof, joined. -/
import Derived.Test.YtefcfdejmfgbpaaMag
import Derived.RangeFuncRecord
set_option linter.unusedVariables false
set_option linter.unusedSimpArgs false

/-
 The value logic, part n, continued: a function value called out of a greater state; loops over functions: the record of a loop is laid, written, struck off.
-/
namespace Go.V
open Go Go.RowKit

section
variable {P:Program} {H H0:List Ent}

theorem qsr {sel:List Nat} {w:World} {M:Nat->Nat->Prop} {G:List Gh} (hn:sel.Nodup) (hlt:∀ i∈sel,i < H.length) (hl:sel.length = H0.length)
 (hent:∀ (j:Nat) (e:Ent),H0[j]? = some e->e = .dead∨(e.bd H0.length = true∧H[sg sel j]? = some (e.ren (sg sel)))) (hst:St w M G H) :
 ∃ G0,St w M G0 H0∧∀ (j:Nat) (g₀:Gh),G0[j]? = some g₀->∃ g:Gh,G[sg sel j]? = some g∧g₀.core = g.core∧∀ b,g₀.fp b->g.fp b:=by
 have hinj:∀ i j,i < H0.length->j < H0.length->sg sel i = sg sel j->i = j:=fun i j hi hj he=>by
  have h1:=qdc (sel:=sel) (j:=i) (by omega)
  have h2:=qdc (sel:=sel) (j:=j) (by omega)
  rw [he,← h2] at h1
  exact (List.getElem?_inj (by omega) hn).1 h1
 have key:=qe4 (n:=0) (m:=0) (σ:=sg sel) (af:=⟨[],[]⟩) (af':=⟨[],[]⟩) (a:={ tmps:=#[],defers:=[] }) hst ⟨rfl,rfl,fun t=>trivial⟩
  ⟨fun i hi=>by omega,Nat.zero_le _,hinj,hent,fun j hj=>hlt _ (List.mem_of_getElem? (qdc (by omega))),fun t=>.inl rfl,fun d hd=>(by cases hd),rfl⟩
 refine ⟨_,key.2.1,fun j g₀ hg=>?_⟩
 have hj:=(List.getElem?_eq_some_iff.1 hg).1
 rw [key.2.1.len] at hj
 have hlt':=hlt _ (List.mem_of_getElem? (qdc (sel:=sel) (j:=j) (by omega)))
 rw [← hst.len] at hlt'
 have hq:=qir (sg sel) G H0 0 j _ (List.getElem?_eq_getElem hj)
 rw [Nat.zero_add] at hq
 rw [hq] at hg
 have hgd:G.getD (sg sel j) {} = G[sg sel j]:=by rw [List.getD_eq_getElem?_getD,List.getElem?_eq_getElem hlt'];rfl
 rw [hgd] at hg
 simp only [Option.some.injEq] at hg
 refine ⟨G[sg sel j],List.getElem?_eq_getElem hlt',?_,fun b hb=>?_⟩
 ·rw [← hg];split<;>rfl
 ·rw [← hg] at hb
  split at hb
  ·exact hb.elim
  ·exact hb

end

/-! ### The record of a loop over a function -/

section
variable {P:Program} {w:World} {M:Nat->Nat->Prop} {G:List Gh} {H:List Ent} {i:Nat} {g:Gh} {d:LpD} {as:List AV}

theorem qgl {r b:Nat} {o:Obj} (h:b≠r):(w.putObj r o).heap[b]? = w.heap[b]?:=World.putObj_heap_other h

theorem qu2 (hst:St w M G H) (hg:G[i]? = some g) (hH:H[i]? = some (.lp d as)) :
 ∃ G',w.heap[g.cap]? = some (.deferred (some []))∧St (w.putObj g.cap (.deferred none)) M G' (H.set i .dead)∧Ext w M G (w.putObj g.cap (.deferred none)) M G':=by
 obtain ⟨h1,⟨vs,h2,h3⟩,h4,h5,h6,h7⟩:=hst.ok i g _ hg hH
 have hle:Le w M (w.putObj g.cap (.deferred none)) M:=fun b o hm=>⟨hm,World.cell?_of_block (qgl fun e=>h7 o (e ▸ hm))⟩
 have hold:∀ b,b < w.heap.size->¬ g.fp b->(w.putObj g.cap (.deferred none)).heap[b]? = w.heap[b]?:=fun b hb hn=>qgl fun e=>hn ((h1 _).2 (.inr e))
 have hi:=(List.getElem?_eq_some_iff.1 hg).1
 refine ⟨G.set i { g with fp:=fun _=>False },h4,qit hst hg rfl (fun _ h=>h.elim) (by simp) hold hle (fun b o h=>.inl h) (fun b hb=>hb),⟨rfl,rfl,rfl,by simp,fun j g₀ hj=>?_,hle,fun b hb hn=>hold b hb (fun h=>hn ⟨i,g,hg,h⟩),fun b ⟨j,g₁,hj,hb⟩=>?_,fun b o hm=>.inl hm⟩⟩
 ·by_cases hji:i = j
  ·subst hji
   rw [hg] at hj;cases hj
   exact ⟨{ g with fp:=fun _=>False },by simp [hi],rfl⟩
  ·exact ⟨g₀,by rw [List.getElem?_set_ne hji];exact hj,rfl⟩
 ·by_cases hji:i = j
  ·subst hji;simp [hi] at hj;subst hj;exact hb.elim
  ·rw [List.getElem?_set_ne hji] at hj;exact .inl ⟨j,g₁,hj,hb⟩

theorem q0i (h:ent H i = .lp d as):H[i]? = some (.lp d as):=qs h (by simp)
end

def ranq (Q:VE->AF->List Ent->Prop) (af:AF) (k:Nat) (H:List Ent):VO->Prop
 | .val _ => match ent H k with
   | .lp ⟨.ready,none,fn,ps,a,b⟩ as=>Q .nrm ⟨af.tm,.mark k :: af.dl⟩ (H.set k (.lp ⟨.exhausted,none,fn,ps,a,b⟩ as))
   | .lp ⟨.done,some .ret,fn,ps,a,b⟩ as=>Q .ret ⟨af.tm,.mark k :: af.dl⟩ (H.set k (.lp ⟨.exhausted,some .ret,fn,ps,a,b⟩ as))
   | .lp ⟨.done,some (.exit id),fn,ps,a,b⟩ as=>Q (.ext id) ⟨af.tm,.mark k :: af.dl⟩ (H.set k (.lp ⟨.exhausted,some (.exit id),fn,ps,a,b⟩ as))
   | _=>False
 | .pan v=>Q (.pan v) ⟨af.tm,.mark k :: af.dl⟩ H

section
variable {P:Program} {n m:Nat} {Q:VE->AF->List Ent->Prop} {af:AF} {H:List Ent} {a b:IC}

end

/-! ### What every value that is there obeys -/

mutual
def AV.wf:AV->Prop
 | .int k n=>(Lit.int k n).wf = true
 | .str l=>l.length≤maxLen
 | .sl _ es=>es.length≤maxLen∧AV.wfs es
 | .lit _ es=>es.length≤maxLen∧AV.wfs es
 | .eptr _ es _ _=>es.length≤maxLen∧AV.wfs es
 | .agg cs=>AV.wfs cs
 | .tup cs=>AV.wfs cs
 | .fn _ a b=>AV.wfs a∧AV.wfs b
 | .iface _ v=>v.wf
 | .bool _ | .nilp | .nilf | .nili | .nils | .nilm | .ptr _ _ | .row _ _ | .rptr _ _ _ _ | .vw _ _ _ _ | .opq _ | .junk=>True
def AV.wfs:List AV->Prop
 | []=>True
 | v :: r=>v.wf∧AV.wfs r
end
def VO.wf:VO->Prop
 | .val v=>v.wf
 | .pan v=>v.wf
theorem qvm (l:List AV):AV.wfs l ↔ ∀ v∈l,v.wf:=by
 induction l with
 | nil=>simp [AV.wfs]
 | cons v r ih=>simp [AV.wfs,ih]

section
variable {w:World} {M:Nat->Nat->Prop} {G:List Gh}
theorem qk2 {n:Nat} {us:List Value} {a:Option Addr} {cap:Nat} (h:SlOK w M n us a cap):us.length≤maxLen:=Nat.le_trans h.1 h.2.1
mutual
theorem qza:∀ (v:AV) (x:Value),VR w M G v x->v.wf
 | .bool _,x,h=>trivial
 | .int _ _,x,h=>h.2
 | .str _,x,h=>h.2
 | .nilp,x,h=>trivial
 | .nilf,x,h=>trivial
 | .nili,x,h=>trivial
 | .nils,x,h=>trivial
 | .nilm,x,h=>trivial
 | .junk,x,h=>trivial
 | .agg cs,x,h=>by obtain ⟨vs,_,h⟩:=h;exact qfa cs vs h
 | .tup cs,x,h=>by obtain ⟨vs,_,h⟩:=h;exact qfa cs vs h
 | .sl n es, x, h => by
   obtain ⟨a,cap,us,h1,h2,_⟩:=h
   exact ⟨by rw [← qb h1];exact qk2 h2,qfa es us h1⟩
 | .lit n es, x, h => by
   obtain ⟨a,us,h1,h2,_⟩:=h
   exact ⟨by rw [← qb h1];exact qk2 h2,qfa es us h1⟩
 | .ptr i off,x,h=>trivial
 | .row i len,x,h=>trivial
 | .eptr n es q off, x, h => by
   obtain ⟨a,cap,us,h1,h2,_⟩:=h
   exact ⟨by rw [← qb h1];exact qk2 h2,qfa es us h1⟩
 | .rptr i n q off,x,h=>trivial
 | .vw i off len cap,x,h=>trivial
 | .fn f first caps, x, h => by
   obtain ⟨xs,ys,h1,h2,_⟩:=h
   exact ⟨qfa first xs h1,qfa caps ys h2⟩
 | .opq i,x,h=>trivial
 | .iface t v, x, h => by
   obtain ⟨y,h1,_⟩:=h
   exact qza v y h1
theorem qfa:∀ (vs:List AV) (xs:List Value),VRs w M G vs xs->AV.wfs vs
 | [],xs,h=>trivial
 | c :: cs, xs, h => by
   obtain ⟨v,r,_,h1,h2⟩:=h
   exact ⟨qza c v h1,qfa cs r h2⟩
end
end

theorem VCalls.mono' {P:Program} {f:FuncId} {H:List Ent} {args:List AV} {Q Q':List Ent->VO->Prop} (h:VCalls P f H args Q) (hq:∀ H' o,o.wf->Q H' o->Q' H' o):VCalls P f H args Q' :=
 ⟨h.1,fun w M G vs hst hv=>CallsIn.mono (h.2 w M G vs hst hv) fun e w' he=>by
  cases e with
  | returned x=>obtain ⟨M',G',H',v,h1,h2,h3,h4⟩:=he;exact ⟨M',G',H',v,hq _ _ (qza v x h4) h1,h2,h3,h4⟩
  | panicked c=>obtain ⟨M',G',H',v,x,h1,h2,h3,h4,h5⟩:=he;exact ⟨M',G',H',v,x,hq _ _ (qza v x h4) h1,h2,h3,h4,h5⟩
  | outgrown=>exact he⟩

theorem qe2 {P:Program} {f:FuncId} {H:List Ent} {args:List AV} {Q:List Ent->VO->Prop} (ho:okF P f = true) (h:AV.wfs args->VCalls P f H args Q):VCalls P f H args Q :=
 ⟨ho,fun w M G vs hst hv=>(h (qfa args vs hv)).2 w M G vs hst hv⟩

/-! ### A state said with less, by lists -/

def qel (H:List Ent) (sel:List Nat) (k:Nat):List Ent->List Nat->Prop
 | [],[]=>True
 | .dead :: r,i :: is=>i < H.length∧qel H sel k r is
 | e :: r,i :: is=>(i < H.length∧e.bd k = true∧ent H i = e.ren (sg sel))∧qel H sel k r is
 | _,_=>False
def tmOK (tm:List (Nat×AV)) (sel:List Nat) (k:Nat):List (Nat×AV)->Prop
 | []=>True
 | (t,v) :: r=>(v.bd k = true∧get tm t = v.ren (sg sel))∧tmOK tm sel k r
def dlOK (sel:List Nat) (k:Nat):List AD->List AD->Prop
 | [],[]=>True
 | d :: r,d' :: r'=>(d'.bd k = true∧d = d'.ren (sg sel))∧dlOK sel k r r'
 | _,_=>False

section
variable {P:Program} {fr:Option Nat} {n m:Nat} {Q Q':VE->AF->List Ent->Prop} {af af':AF} {H H':List Ent} {a b:IC}

theorem qbe {sel:List Nat} {k:Nat}:∀ {l:List Ent} {is:List Nat},qel H sel k l is->l.length = is.length∧∀ (j:Nat) (e:Ent) (i:Nat),l[j]? = some e->is[j]? = some i->i < H.length∧(e = .dead∨(e.bd k = true∧H[i]? = some (e.ren (sg sel))))
 | [],[],_=>⟨rfl,fun j e i h=>by simp at h⟩
 | [],i :: is,h=>h.elim
 | e :: r,[],h=>by cases e<;>exact h.elim
 | .dead :: r, i :: is, h => by
   obtain ⟨h1,h2⟩:=h
   obtain ⟨h3,h4⟩:=qbe h2
   refine ⟨by simp [h3],fun j e i' he hi=>?_⟩
   cases j with
   | zero=>simp at he hi;subst he hi;exact ⟨h1,.inl rfl⟩
   | succ j=>exact h4 j e i' (by simpa using he) (by simpa using hi)
 | .blk cs :: r, i :: is, h => by
   obtain ⟨⟨h0,h1,h5⟩,h2⟩:=h
   obtain ⟨h3,h4⟩:=qbe h2
   refine ⟨by simp [h3],fun j e i' he hi=>?_⟩
   cases j with
   | zero=>simp at he hi;subst he hi;exact ⟨h0,.inr ⟨h1,qs h5 (by simp [Ent.ren])⟩⟩
   | succ j=>exact h4 j e i' (by simpa using he) (by simpa using hi)
 | .app q es :: r, i :: is, h => by
   obtain ⟨⟨h0,h1,h5⟩,h2⟩:=h
   obtain ⟨h3,h4⟩:=qbe h2
   refine ⟨by simp [h3],fun j e i' he hi=>?_⟩
   cases j with
   | zero=>simp at he hi;subst he hi;exact ⟨h0,.inr ⟨h1,qs h5 (by simp [Ent.ren])⟩⟩
   | succ j=>exact h4 j e i' (by simpa using he) (by simpa using hi)
 | .mrow q es :: r, i :: is, h => by
   obtain ⟨⟨h0,h1,h5⟩,h2⟩:=h
   obtain ⟨h3,h4⟩:=qbe h2
   refine ⟨by simp [h3],fun j e i' he hi=>?_⟩
   cases j with
   | zero=>simp at he hi;subst he hi;exact ⟨h0,.inr ⟨h1,qs h5 (by simp [Ent.ren])⟩⟩
   | succ j=>exact h4 j e i' (by simpa using he) (by simpa using hi)
 | .lp d as :: r, i :: is, h => by
   obtain ⟨⟨h0,h1,h5⟩,h2⟩:=h
   obtain ⟨h3,h4⟩:=qbe h2
   refine ⟨by simp [h3],fun j e i' he hi=>?_⟩
   cases j with
   | zero=>simp at he hi;subst he hi;exact ⟨h0,.inr ⟨h1,qs h5 (by simp [Ent.ren])⟩⟩
   | succ j=>exact h4 j e i' (by simpa using he) (by simpa using hi)
 | .cus R :: r, i :: is, h => by
   obtain ⟨⟨h0,h1,h5⟩,h2⟩:=h
   obtain ⟨h3,h4⟩:=qbe h2
   refine ⟨by simp [h3],fun j e i' he hi=>?_⟩
   cases j with
   | zero=>simp at he hi;subst he hi;exact ⟨h0,.inr ⟨h1,qs h5 (by simp [Ent.ren])⟩⟩
   | succ j=>exact h4 j e i' (by simpa using he) (by simpa using hi)

theorem ql3 {tm:List (Nat×AV)} {sel:List Nat} {k:Nat}:∀ {l:List (Nat×AV)},tmOK tm sel k l->∀ t,get l t = .junk∨((get l t).bd k = true∧get tm t = (get l t).ren (sg sel))
 | [],_,t=>.inl rfl
 | (s, v) :: r, h, t => by
   obtain ⟨⟨h1,h2⟩,h3⟩:=h
   simp only [get]
   by_cases hst:s = t
   ·subst hst;rw [if_pos rfl];exact .inr ⟨h1,h2⟩
   ·rw [if_neg hst];exact ql3 h3 t

theorem qmw {sel:List Nat} {k:Nat}:∀ {l l':List AD},dlOK sel k l l'->(∀ d∈l',d.bd k = true)∧l = l'.map (AD.ren (sg sel))
 | [],[],_=>⟨fun d h=>(by cases h),rfl⟩
 | [],d :: r,h=>h.elim
 | d :: r,[],h=>h.elim
 | d :: r, d' :: r', h => by
   obtain ⟨⟨h1,h2⟩,h3⟩:=h
   obtain ⟨h4,h5⟩:=qmw h3
   refine ⟨fun x hx=>?_,by rw [List.map_cons,← h5,← h2]⟩
   rcases List.mem_cons.1 hx with rfl | hx
   ·exact h1
   ·exact h4 x hx

def qbbb (m:Nat) (sel:List Nat):Prop:=sel.take m = List.range m

theorem qbgb (sel:List Nat) (hf:qbbb m sel) (hn:sel.Nodup) (he:qel H sel H'.length H' sel) (ht:tmOK af.tm sel H'.length af'.tm) (hd:dlOK sel H'.length af.dl af'.dl):Wk m af H af' H':=by
 obtain ⟨h1,h2⟩:=qbe he
 obtain ⟨h3,h4⟩:=qmw hd
 have hml:m≤sel.length:=by
  have:=congrArg List.length hf
  simp at this;omega
 refine ⟨sg sel,fun i hi=>?_,by omega,fun i j hi hj e=>?_,fun j e hj=>?_,fun j hj=>?_,ql3 ht,h3,h4⟩
 ·have h5:(sel.take m)[i]? = some i:=by rw [hf];simp [hi]
  rw [List.getElem?_take_of_lt hi,qdc (by omega)] at h5
  simpa using h5
 ·have h1:=qdc (sel:=sel) (j:=i) (by omega)
  have h2:=qdc (sel:=sel) (j:=j) (by omega)
  rw [e,← h2] at h1
  exact (List.getElem?_inj (by omega) hn).1 h1
 ·have hj':=(List.getElem?_eq_some_iff.1 hj).1
  exact (h2 j e _ hj (qdc (by omega))).2
 ·exact (h2 j _ _ (List.getElem?_eq_getElem hj) (qdc (by omega))).1

theorem qu {S:Type} {Inv:S->Prop} {st:S->AF×List Ent} (s:S) (sel:List Nat) (hs:Inv s) (hf:qbbb m sel) (hn:sel.Nodup) (he:qel H sel (st s).2.length (st s).2 sel) (ht:tmOK af.tm sel (st s).2.length (st s).1.tm)
 (hd:dlOK sel (st s).2.length af.dl (st s).1.dl):At S Inv st m af H:=⟨s,hs,qbgb sel hf hn he ht hd⟩
end

/-! ### Functions -/

inductive RV where
 | t (n:Nat)
 | c (agg:Bool) (n a:Nat)

def cRes (P:Program):List ResultVar->List TypeId->Option (List (RV×Co))
 | [],_=>some []
 | .tmp t :: r, ts => match cRes P r ts.tail with
   | some l=>some ((.t t,match ts.head? with | some t=>coT P t | none=>.id) :: l)
   | none=>none
 | .cell a t :: r, ts => match aggT P t, qbb P t, cRes P r ts.tail with
   | some g,some n,some l=>some ((.c g n a,match ts.head? with | some t=>coT P t | none=>.id) :: l)
   | _,_,_=>none

def cFun (P:Program) (f:FuncId):Option (Nat×IC×List (RV×Co)) :=
 match P.funcs[f]? with
 | some fn => if fn.name == "runtime.NumGoroutine" then none else match fn.body with
   | some c => match qbr P fn.ntmps c, cRes P fn.results.toList fn.resultTypes.toList with
     | some ic,some rs=>some (fn.ntmps,ic,rs)
     | _,_=>none
   | none=>none
 | none=>none

def qc3 (af:AF) (H:List Ent):List (RV×Co)->Rs (List AV)
 | []=>.ret []
 | (.t t,c) :: r=>(qc3 af H r).map fun l=>co H c (get af.tm t) :: l
 | (.c g n a, c) :: r => match ldv g n H (get af.tm a) with
   | .ret v=>(qc3 af H r).map fun l=>co H c v :: l
   | .req p (.ret v)=>.req p ((qc3 af H r).map fun l=>co H c v :: l)
   | .req p (.req q (.ret v))=>.req p (.req q ((qc3 af H r).map fun l=>co H c v :: l))
   | _=>.bad
def one:List AV->AV
 | [v]=>v
 | l=>.tup l

def fin (k:Nat) (Q:List Ent->VO->Prop) (H:List Ent) (o:VO):Prop :=
 k≤H.length∧(H.take k).all (Ent.bd k) = true∧o.bd k = true∧Q (H.take k) o

def dlq:List AD->List Ent->(List Ent->Prop)->Prop
 | [],H,K=>K H
 | .mark i :: l, H, K => match ent H i with
   | .lp _ _=>dlq l (H.set i .dead) K
   | _=>False
 | .dfr _ _ :: _,_,_=>False

def retk (k:Nat) (rs:List (RV×Co)) (Q:List Ent->VO->Prop) (af:AF) (H:List Ent):Prop :=
 (qc3 af H rs).bnd fun l=>fin k Q H (.val (one l))
def pank (k:Nat) (Q:List Ent->VO->Prop) (v:AV) (H:List Ent):Prop:=fin k Q H (.pan v)

def retq (k:Nat) (rs:List (RV×Co)) (Q:List Ent->VO->Prop):VE->AF->List Ent->Prop
 | .nrm,af,H | .ret,af,H=>dlq af.dl H (retk k rs Q af)
 | .pan v,af,H=>dlq af.dl H (pank k Q v)
 | _,_,_=>False

theorem qg0 {K K':List Ent->Prop} (h:∀ H,K H->K' H):∀ {l:List AD} {H:List Ent},dlq l H K->dlq l H K'
 | [],H,hq=>h H hq
 | .mark i :: l, H, hq => by
   simp only [dlq] at hq ⊢
   split at hq
   ·exact qg0 h hq
   ·exact hq.elim
 | .dfr _ _ :: _,_,hq=>hq.elim

def qbs:Nat->List AV->List (Nat×AV)
 | _,[]=>[]
 | i,a :: r=>(i,a) :: qbs (i + 1) r

section
variable {P:Program} {w:World} {M:Nat->Nat->Prop} {G:List Gh} {n m:Nat} {af:AF} {H:List Ent} {a:Act}

mutual
theorem AV.ren_id:∀ v:AV,v.ren id = v
 | .bool _ | .int _ _ | .str _ | .nilp | .nilf | .nili | .nils | .nilm | .junk | .ptr _ _ | .row _ _ | .rptr _ _ _ _ | .vw _ _ _ _ | .opq _=>rfl
 | .agg cs | .tup cs | .sl _ cs | .lit _ cs | .eptr _ cs _ _=>by simp only [AV.ren,AV.rens_id cs]
 | .fn f a b=>by simp only [AV.ren,AV.rens_id a,AV.rens_id b]
 | .iface t v=>by simp only [AV.ren,AV.ren_id v]
theorem AV.rens_id:∀ l:List AV,AV.rens id l = l
 | []=>rfl
 | v :: r=>by simp only [AV.rens,AV.ren_id v,AV.rens_id r]
end
theorem Ent.ren_id (e:Ent):e.ren id = e:=by cases e<;>simp only [Ent.ren,AV.rens_id]

theorem qer (hst:St w M G H) (hr:RelF w M G n af a):∀ {rs:List ResultVar} {ts:List TypeId} {l:List (RV×Co)} {K:List AV->Prop},cRes P rs ts = some l->(qc3 af H l).bnd K →
 ∃ vs xs,K vs∧VRs w M G vs xs∧(rs.mapM (m:=Sem) fun | .tmp t=>pure (a.tmps.getD t undef) | .cell q t=>do loadVar t (← asAddr (a.tmps.getD q undef))).run P w = .ok xs w
 | [], ts, l, K, hc, h => by
   simp only [cRes,Option.some.injEq] at hc;subst hc
   exact ⟨[],[],h,rfl,rfl⟩
 | .tmp t :: r, ts, l, K, hc, h => by
   simp only [cRes] at hc
   split at hc
   ·rename_i l' hl
    simp only [Option.some.injEq] at hc;subst hc
    simp only [qc3] at h
    rw [q7] at h
    obtain ⟨vs,xs,h1,h2,h3⟩:=qer hst hr hl h
    refine ⟨_,_,h1,⟨_,_,rfl,qci hst _ _ _ (hr.rd t),h2⟩,?_⟩
    simp only [List.mapM_cons,Sem.run_bind,Sem.run_pure,Result.andThen_ok,h3]
   ·cases hc
 | .cell q t :: r, ts, l, K, hc, h => by
   simp only [cRes] at hc
   split at hc
   ·rename_i g k l' hg hk hl
    simp only [Option.some.injEq] at hc;subst hc
    have hld:∃ v:AV,(ldv g k H (get af.tm q)).bnd (fun u=>u = v)∧((qc3 af H l').map fun l=>co H (match ts.head? with | some t=>coT P t | none=>.id) v :: l).bnd K:=by
     simp only [qc3] at h
     split at h
     ·rename_i v hv;exact ⟨v,by rw [hv];rfl,h⟩
     ·rename_i p v hv;exact ⟨v,by rw [hv];exact ⟨h.1,rfl⟩,h.2⟩
     ·rename_i p p' v hv;exact ⟨v,by rw [hv];exact ⟨h.1,h.2.1,rfl⟩,h.2.2⟩
     ·exact h.elim
    obtain ⟨v,hv,h⟩:=hld
    rw [q7] at h
    obtain ⟨vs,xs,h1,h2,h3⟩:=qer hst hr hl h
    obtain ⟨u,x,q1,q2,q3⟩:=qik (P:=P) (t:=t) hst hg hk (hr.rd q) hv
    subst q1
    have hsp:(do loadVar t (← asAddr (a.tmps.getD q undef)):Sem Value).run P w = .ok x w:=by
     have hrd:=hr.rd q
     cases hp:get af.tm q<;>rw [hp] at hv hrd<;>simp only [ldv,Rs.bnd] at hv
     ·obtain ⟨g',_,hx⟩:=hrd
      rw [hx] at q3 ⊢
      rw [qt] at q3
      simp only [Sem.run_bind,asAddr,Sem.run_pure,Result.andThen_ok];exact q3
     ·obtain ⟨ad,cap,us,_,hsl,_,hx⟩:=hrd
      rw [hx] at q3 ⊢
      rw [qt] at q3
      simp only [Sem.run_bind,asAddr,Sem.run_pure,Result.andThen_ok];exact q3
     ·obtain ⟨g',_,hx⟩:=hrd
      rw [hx] at q3 ⊢
      rw [qt] at q3
      simp only [Sem.run_bind,asAddr,Sem.run_pure,Result.andThen_ok];exact q3
    refine ⟨_,_,h1,⟨_,_,rfl,qci hst _ _ _ q2,h2⟩,?_⟩
    simp only [Sem.run_bind] at hsp
    simp only [List.mapM_cons,Sem.run_bind,hsp,Result.andThen_ok,h3,Sem.run_pure]
   ·cases hc

theorem qev {fn:Func} {l:List (RV×Co)} {K:List AV->Prop} (hst:St w M G H) (hr:RelF w M G n af a) (hc:cRes P fn.results.toList fn.resultTypes.toList = some l) (h:(qc3 af H l).bnd K) :
 ∃ vs x,K vs∧VR w M G (one vs) x∧(results fn a.tmps).run P w = .ok x w:=by
 obtain ⟨vs,xs,h1,h2,h3⟩:=qer hst hr hc h
 have hm:(fn.results.mapM (m:=Sem) fun | .tmp t=>pure (a.tmps.getD t undef) | .cell q t=>do loadVar t (← asAddr (a.tmps.getD q undef))).run P w = .ok xs.toArray w:=by
  rw [← Array.toArray_toList (xs:=fn.results)]
  rw [List.mapM_toArray]
  simp only [Sem.run_map,h3]
  rfl
 have hl:=qb h2
 refine ⟨vs,(if h:xs.toArray.size = 1 then xs.toArray[0] else .tuple xs.toArray),h1,?_,?_⟩
 ·match vs,h2 with
  | [],h2=>simp only [VRs] at h2;subst h2;exact ⟨[],by simp,rfl⟩
  | [v], h2 =>
    obtain ⟨x,r,rfl,h4,h5⟩:=h2
    simp only [VRs] at h5;subst h5
    exact h4
  | v :: v' :: r, h2 =>
    have:xs.toArray.size≠1:=by simp at hl ⊢;omega
    rw [dif_neg this]
    exact ⟨xs,rfl,h2⟩
 ·simp only [results,Sem.run_bind]
  erw [hm]
  simp only [Result.andThen_ok,Sem.run_pure]

theorem qd9 {k:Nat} {Q:List Ent->VO->Prop} {o:VO} (hst:St w M G H) (h:fin k Q H o) (hm:m≤k):∃ G',ExtM m w M G w M G'∧St w M G' (H.take k)∧Q (H.take k) o∧∀ (v:AV) (x:Value),v.bd k = true->VR w M G v x->VR w M G' v x:=by
 obtain ⟨h1,h2,h3,h4⟩:=h
 have hl:(H.take k).length = k:=by rw [List.length_take];omega
 have key:=qe4 (n:=0) (m:=m) (σ:=id) (af:=⟨[],[]⟩) (H':=H.take k) (af':=⟨[],[]⟩) (a:={ tmps:=#[],defers:=[] }) hst ⟨rfl,rfl,fun t=>trivial⟩
  ⟨fun i _=>rfl,by omega,fun i j _ _ e=>e,fun j e he=>.inr ⟨by rw [hl];exact (List.all_eq_true.1 h2) e (List.mem_of_getElem? he),by
   rw [Ent.ren_id]
   have hj:=(List.getElem?_eq_some_iff.1 he).1
   rw [List.getElem?_take_of_lt (by omega)] at he
   exact he⟩,fun j hj=>by simp only [id];omega,fun t=>.inl rfl,fun d hd=>(by cases hd),rfl⟩
 refine ⟨_,key.1,key.2.1,h4,fun v x hb hv=>?_⟩
 have hv':VR w M G (v.ren id) x:=by rw [AV.ren_id];exact hv
 refine qtx (σ:=id) (k:=k) (fun i g hi hg=>?_) v x hb hv'
 have hi':i < (H.take k).length:=by omega
 have hq:=qir id G (H.take k) 0 i _ (List.getElem?_eq_getElem hi')
 rw [Nat.zero_add] at hq
 have hg':G.getD (id i) {} = g:=by rw [List.getD_eq_getElem?_getD,hg];rfl
 rw [hg'] at hq
 refine ⟨_,hq,?_⟩
 split<;>rfl

theorem qby:∀ {args:List AV} {i t:Nat},get (qbs i args) t = if i≤t then args.getD (t - i) .junk else .junk
 | [],i,t=>by simp [qbs,get]
 | a :: r, i, t => by
   simp only [qbs,get]
   by_cases h:i = t
   ·subst h;simp
   ·rw [if_neg h,qby]
    by_cases h2:i≤t
    ·rw [if_pos (by omega),if_pos h2]
     obtain ⟨d,rfl⟩:∃ d,t = i + 1 + d:=⟨t - i - 1,by omega⟩
     rw [show i + 1 + d - (i + 1) = d by omega,show i + 1 + d - i = d + 1 by omega]
     rfl
    ·rw [if_neg (by omega),if_neg h2]
end

section
variable {P:Program} {f:FuncId} {n k:Nat} {ic:IC} {rs:List (RV×Co)} {H:List Ent} {args:List AV} {Q:List Ent->VO->Prop}

theorem qd0 (h:cFun P f = some (n,ic,rs)):∃ fn c,P.funcs[f]? = some fn∧fn.body = some c∧fn.ntmps = n∧qbr P n c = some ic∧cRes P fn.results.toList fn.resultTypes.toList = some rs∧okF P f = true:=by
 unfold cFun at h
 split at h
 ·rename_i fn hf
  split at h
  ·cases h
  ·rename_i hname
   split at h
   ·rename_i c hb
    split at h
    ·rename_i ic' rs' h1 h2
     simp only [Option.some.injEq,Prod.mk.injEq] at h
     obtain ⟨rfl,rfl,rfl⟩:=h
     exact ⟨fn,c,hf,hb,rfl,h1,h2,by simp [okF,hf,hb];simpa using hname⟩
    ·cases h
   ·cases h
 ·cases h

theorem qfp {tm:List (Nat×AV)} {l l':List AD} {H:List Ent}:∀ {rs:List (RV×Co)},qc3 ⟨tm,l⟩ H rs = qc3 ⟨tm,l'⟩ H rs
 | []=>rfl
 | (.t t,c) :: r=>by simp only [qc3,qfp (rs:=r) (l:=l) (l':=l')]
 | (.c g n a,c) :: r=>by simp only [qc3,qfp (rs:=r) (l:=l) (l':=l')]

theorem qh (hc:cFun P f = some (n,ic,rs)) (k:Nat) (hk:H.length≤k) (hl:args.length≤n) (h:VI P none n H.length ic (retq k rs Q) ⟨qbs 0 args,[]⟩ H):VCalls P f H args Q:=by
 obtain ⟨fn,c,hf,hb,hn,hcode,hres,hok⟩:=qd0 hc
 subst hn
 refine ⟨hok,fun w M G vs hst hv=>callsIn_of_wp_marks hf hb trivial ?_⟩
 have hvl:=qb hv
 have hrel:RelF w M G fn.ntmps ⟨qbs 0 args,[]⟩ { tmps:=vs.toArray ++ Array.replicate (fn.ntmps - vs.toArray.size) undef,defers:=[] }:=by
  refine ⟨by simp;omega,rfl,fun t=>?_⟩
  simp only [qby,Nat.zero_le,if_true,Nat.sub_zero]
  by_cases ht:t < args.length
  ·obtain ⟨x,hx,hr⟩:=qbn hv ht
   have:(vs.toArray ++ Array.replicate (fn.ntmps - vs.toArray.size) undef).getD t undef = x:=by
    rw [Array.getD_eq_getD_getElem?,Array.getElem?_append_left (by simp;omega)]
    simp [hx]
   rw [this];exact hr
  ·have:args.getD t .junk = .junk:=by rw [List.getD_eq_getElem?_getD,List.getElem?_eq_none (by omega)];rfl
   rw [this];trivial
 have hwp:=h c hcode w M G _ hst hrel
 have hfw:fw none = Fence.wide:=rfl
 rw [hfw] at hwp
 refine wpIn_mono hwp fun e a' w' hp=>?_
 obtain ⟨ve,af',M',G',H',h1,h2,h3,h4,h5⟩:=hp
 have hlen:G.length = H.length:=hst.len
 -- the marks
 have leave:∀ (l:List AD) (ds:List Deferred) (H₁:List Ent) (G₁:List Gh) (w₁:World) (mode:FrameMode) (K:List Ent->Prop),mode≠.run->DR w₁ M' G₁ l ds->ExtM H.length w M G w₁ M' G₁->St w₁ M' G₁ H₁->(∀ t,VR w₁ M' G₁ (get af'.tm t) (a'.tmps.getD t undef))->dlq l H₁ K →
  (∀ (H₂:List Ent) (G₂:List Gh) (w₂:World),K H₂->ExtM H.length w M G w₂ M' G₂->Ext w₁ M' G₁ w₂ M' G₂->St w₂ M' G₂ H₂->(∀ t,VR w₂ M' G₂ (get af'.tm t) (a'.tmps.getD t undef))->LeavesIn Fence.wide 0 P fn a'.tmps (Out Q w M G) [] mode w₂) →
  LeavesInM Fence.wide 0 P fn a'.tmps (Out Q w M G) ds mode w₁:=by
  intro l
  induction l with
  | nil =>
    intro ds H₁ G₁ w₁ mode K hmo hd he hs hv hq hK
    simp only [DR] at hd;subst hd
    exact hK H₁ G₁ w₁ hq he (Ext.refl _ _ _) hs hv
  | cons d l ih =>
    intro ds H₁ G₁ w₁ mode K hmo hd he hs hv hq hK
    cases d with
    | dfr f args=>exact hq.elim
    | mark i =>
      obtain ⟨g,r,rfl,hg,hd⟩:=hd
      simp only [dlq] at hq
      split at hq
      ·rename_i d as hen
       obtain ⟨G₂,q1,q2,q3⟩:=qu2 hs hg (q0i hen)
       refine ⟨hmo,.inl ⟨g.cap,_,rfl,run_takeDeferred q1,?_⟩⟩
       exact ih r _ G₂ _ mode K hmo (qf3 q3.core q3.le hd) (he.trans q3.toM) q2 (fun t=>(hv t).ext q3) hq fun H₂ G₃ w₂ r1 r2 r3 r4 r5=>hK H₂ G₃ w₂ r1 r2 (q3.trans r3) r4 r5
      ·exact hq.elim
 have done:∀ (hq:dlq af'.dl H' (retk k rs Q af')),LeavesInM Fence.wide 0 P fn a'.tmps (Out Q w M G) a'.defers .returning w':=fun hq=>by
  refine leave af'.dl a'.defers H' G' w' .returning _ (by simp) h5.defers h3 h4 h5.rd hq fun H₂ G₂ w₂ q1 q2 q3 q4 q5=>?_
  obtain ⟨us,x,s1,s2,s3⟩:=qev (n:=fn.ntmps) (af:=⟨af'.tm,[]⟩) (a:={ tmps:=a'.tmps,defers:=[] }) q4 ⟨h5.size,rfl,q5⟩ hres (by rw [qfp (l':=af'.dl)];exact q1)
  obtain ⟨G'',r1,r2,r3,r4⟩:=qd9 (m:=H.length) q4 s1 hk
  exact ⟨x,s3,M',G'',_,_,r3,(hlen ▸ (q2.trans r1)).toExt,r2,r4 _ _ s1.2.2.1 s2⟩
 cases ve with
 | nrm=>have h2:e = .normal:=h2;subst h2;exact done h1
 | ret=>have h2:e = .ret:=h2;subst h2;exact done h1
 | pan v =>
   obtain ⟨x,rfl,hx⟩:=h2
   refine leave af'.dl a'.defers H' G' w' _ _ (by simp) h5.defers h3 h4 h5.rd h1 fun H₂ G₂ w₂ q1 q2 q3 q4 q5=>?_
   obtain ⟨G'',r1,r2,r3,r4⟩:=qd9 (m:=H.length) q4 q1 hk
   exact ⟨M',G'',_,_,x,r3,(hlen ▸ (q2.trans r1)).toExt,r2,r4 _ _ q1.2.2.1 (hx.ext q3),rfl⟩
 | ext i=>exact h1.elim
 | gto l=>exact h1.elim

def qo (P:Program) (f:FuncId) (args:List AV) (r:AV):Prop :=
 VCalls P f [] args (fun H' o=>H' = []∧o = .val r)∧AV.bds 0 args = true∧r.bd 0 = true

theorem qjg (k:Nat) (l r:List AV):AV.bds k (l ++ r) = (AV.bds k l && AV.bds k r):=by
 rw [qek,qek,qek,List.all_append]

theorem qj {r:AV} (hc:cFun P f = some (n,ic,rs)) (hl:args.length≤n) (ha:AV.bds 0 args = true) (hr:r.bd 0 = true) (h:AV.wfs args->VI P none n 0 ic (retq 0 rs fun H' o=>o = .val r) ⟨qbs 0 args,[]⟩ []):qo P f args r:=by
 obtain ⟨_,_,_,_,_,_,_,hok⟩:=qd0 hc
 exact ⟨qe2 hok fun hw=>qh hc 0 (Nat.le_refl _) hl ((h hw).mono fun e af H hq=>by
  cases e<;>simp only [retq] at hq ⊢
  ·exact qg0 (fun H=>by simp only [retk,fin,List.take_zero,true_and];exact id) hq
  ·exact qg0 (fun H=>by simp only [retk,fin,List.take_zero,true_and];exact id) hq
  ·exact qg0 (fun H=>by simp only [pank,fin,List.take_zero,true_and];exact id) hq),ha,hr⟩

theorem qno {r:AV} (h:qo P f args r) (hq:r.wf->Q H (.val r)):VCalls P f H args Q:=by
 have h1:=h.1.mono' (Q':=fun H' o=>(H' = []∧o = .val r)∧r.wf) fun H' o hw ho=>⟨ho,by have:=ho.2;subst this;exact hw⟩
 have:=qj0 (H:=H) [] (Q':=Q) h1 List.nodup_nil (by simp) rfl (by simp) h.2.1 (fun H1 o ho=>by
  obtain ⟨⟨rfl,rfl⟩,hwf⟩:=ho
  simp only [q8,List.take_nil,List.map_nil,List.drop_nil,List.append_nil,VO.ren]
  rw [ren_same (m:=0) (fun i hi=>by omega) r h.2.2]
  exact hq hwf)
 rwa [qm (m:=0) (fun i hi=>by omega) args h.2.1] at this

theorem qso {r:AV} {first caps:List AV} (h:qo P f (first ++ args ++ caps) r) (hq:r.wf->Q H (.val r)):VApp P H (.fn f first caps) args Q:=qcq (qno h hq)
theorem qa {r:AV} (h:qo P f args r) (hq:r.wf->Q H (.val r)):VApp P H (.fn f [] []) args Q:=qso (by simpa using h) hq
end

def runE (P:Program) (Q:VE->AF->List Ent->Prop):List GI->AF->List Ent->Prop
 | [],af,H=>Q .nrm af H
 | ⟨none,d,i⟩ :: r,af,H=>doD P af H i fun _ v H'=>runE P Q r (put af d v) H'
 | ⟨some (t,b),d,i⟩ :: r,af,H=>gd (get af.tm t) b (doD P af H i fun _ v H'=>runE P Q r (put af d v) H') (runE P Q r (put af d (.tup [])) H)

def noUs:List (GI×List Nat)->Bool
 | []=>true
 | (_,us) :: r=>us.isEmpty && noUs r

theorem qo2 {P:Program} {af:AF} {H:List Ent} {i:I} {K K':Md->AV->List Ent->Prop} (h:doD P af H i K) (hk:∀ t v H',K t v H'->K' t v H'):doD P af H i K':=by
 cases i with
 | call f l =>
   rcases h with ⟨r,h1,h2⟩ | ⟨r,h1,h2⟩ | ⟨r,k,e,e',h1,h2⟩ | ⟨k,e',ln,h1,h2⟩ | ⟨e',h1,h2⟩
   ·exact .inl ⟨r,h1,hk _ _ _ h2⟩
   ·exact .inr (.inl ⟨r,h1,hk _ _ _ h2⟩)
   ·exact .inr (.inr (.inl ⟨r,k,e,e',h1,hk _ _ _ h2⟩))
   ·exact .inr (.inr (.inr (.inl ⟨k,e',ln,h1,hk _ _ _ h2⟩)))
   ·exact .inr (.inr (.inr (.inr ⟨e',h1,hk _ _ _ h2⟩)))
 | _=>exact qec (fun p hp=>hk _ _ _ hp) h

theorem qc6 {P:Program} {Q:VE->AF->List Ent->Prop}:∀ {l:List (GI×List Nat)} {acc:List FP} {af:AF} {H:List Ent},noUs l = true->runE P Q (l.map (·.1)) af H->runD P Q acc l af H
 | [],acc,af,H,_,h=>h
 | (⟨none, d, i⟩, us) :: r, acc, af, H, hn, h => by
   simp only [noUs,Bool.and_eq_true,List.isEmpty_iff] at hn
   obtain ⟨rfl,hn⟩:=hn
   simp only [List.map_cons,runE] at h
   simp only [runD]
   exact qo2 h fun t v H' hk=>⟨trivial,qc6 hn hk⟩
 | (⟨some (t, b), d, i⟩, us) :: r, acc, af, H, hn, h => by
   simp only [noUs,Bool.and_eq_true,List.isEmpty_iff] at hn
   obtain ⟨rfl,hn⟩:=hn
   simp only [List.map_cons,runE] at h
   simp only [runD]
   unfold gd at h ⊢
   split at h
   ·split at h
    ·rename_i c hc hb
     rw [if_pos hb]
     exact qo2 h fun t v H' hk=>⟨trivial,qc6 hn hk⟩
    ·rename_i c hc hb
     rw [if_neg hb]
     exact ⟨trivial,qc6 hn h⟩
   ·exact ⟨trivial,qc6 hn h⟩
   ·exact h

inductive Kt where
 | L (r:List GI)
 | E (r:List GI)
 | D (acc:List FP) (us:List Nat) (r:List (GI×List Nat))

def yesK (P:Program) (Q:VE->AF->List Ent->Prop) (d:Option Nat) (i:I) (k:Kt) (af:AF) (H:List Ent):Prop :=
 match k with
 | .L r=>runL P Q (⟨none,d,i⟩ :: r) af H
 | .E r=>runE P Q (⟨none,d,i⟩ :: r) af H
 | .D acc us r=>runD P Q acc ((⟨none,d,i⟩,us) :: r) af H
def noK (P:Program) (Q:VE->AF->List Ent->Prop) (d:Option Nat) (i:I) (k:Kt) (af:AF) (H:List Ent):Prop :=
 match k with
 | .L r=>runL P Q r (put af d (.tup [])) H
 | .E r=>runE P Q r (put af d (.tup [])) H
 | .D acc us r=>qc0 acc us (fpI af H.length .off i)∧runD P Q (acc ++ [fpI af H.length .off i]) r (put af d (.tup [])) H
def gdK (P:Program) (Q:VE->AF->List Ent->Prop) (v:AV) (b:Bool) (d:Option Nat) (i:I) (k:Kt) (af:AF) (H:List Ent):Prop :=
 gd v b (yesK P Q d i k af H) (noK P Q d i k af H)

section
variable {P:Program} {Q:VE->AF->List Ent->Prop} {d:Option Nat} {i:I} {k:Kt} {af:AF} {H:List Ent}
theorem qbel:gdK P Q (.bool true) true d i k af H = yesK P Q d i k af H:=Eq.trans rfl rfl
theorem qbdp:gdK P Q (.bool true) false d i k af H = noK P Q d i k af H:=Eq.trans rfl rfl
theorem q9i:gdK P Q (.bool false) true d i k af H = noK P Q d i k af H:=Eq.trans rfl rfl
theorem qbfy:gdK P Q (.bool false) false d i k af H = yesK P Q d i k af H:=Eq.trans rfl rfl
theorem q3m (b:Bool):gdK P Q (.tup []) b d i k af H = noK P Q d i k af H:=Eq.trans rfl rfl
theorem qbfq (r:List GI):yesK P Q d i (.L r) af H = runL P Q (⟨none,d,i⟩ :: r) af H:=Eq.trans rfl rfl
theorem qbbo (r:List GI):yesK P Q d i (.E r) af H = runE P Q (⟨none,d,i⟩ :: r) af H:=Eq.trans rfl rfl
theorem qbbx (acc:List FP) (us:List Nat) (r:List (GI×List Nat)):yesK P Q d i (.D acc us r) af H = runD P Q acc ((⟨none,d,i⟩,us) :: r) af H:=Eq.trans rfl rfl
theorem qbf5 (r:List GI):noK P Q d i (.L r) af H = runL P Q r (put af d (.tup [])) H:=Eq.trans rfl rfl
theorem qbf6 (r:List GI):noK P Q d i (.E r) af H = runE P Q r (put af d (.tup [])) H:=Eq.trans rfl rfl
theorem qbgm (acc:List FP) (us:List Nat) (r:List (GI×List Nat)):noK P Q d i (.D acc us r) af H = (qc0 acc us (fpI af H.length .off i)∧runD P Q (acc ++ [fpI af H.length .off i]) r (put af d (.tup [])) H):=Eq.trans rfl rfl
attribute [go_sem] qbel qbdp q9i qbfy q3m qbfq qbbo qbbx qbf5 qbf6 qbgm
end

section
variable {P:Program} {Q:VE->AF->List Ent->Prop}
def kvE (P:Program) (Q:VE->AF->List Ent->Prop) (d:Option Nat) (r:List GI) (af:AF) (H:List Ent) (v:AV):Prop:=runE P Q r (put af d v) H
def ksE (P:Program) (Q:VE->AF->List Ent->Prop) (d:Option Nat) (r:List GI) (af:AF) (H:List Ent):Prop:=runE P Q r (put af d (.tup [])) H
def kcE (P:Program) (Q:VE->AF->List Ent->Prop) (d:Option Nat) (r:List GI) (af:AF) (_:Md) (v:AV) (H:List Ent):Prop:=runE P Q r (put af d v) H
theorem q7d (d:Option Nat) (r:List GI) (af:AF) (H:List Ent) (v:AV):kvE P Q d r af H v = runE P Q r (put af d v) H:=Eq.trans rfl rfl
theorem q0u (d:Option Nat) (r:List GI) (af:AF) (H:List Ent):ksE P Q d r af H = runE P Q r (put af d (.tup [])) H:=Eq.trans rfl rfl
theorem q4u (d:Option Nat) (r:List GI) (af:AF) (H:List Ent) (t:Md) (v:AV):kcE P Q d r af t v H = runE P Q r (put af d v) H:=Eq.trans rfl rfl
theorem qwc (af:AF) (H:List Ent):runE P Q [] af H = Q .nrm af H:=Eq.trans rfl rfl
theorem qbfb (d:Option Nat) (i:IV) (r:List GI) (af:AF) (H:List Ent):runE P Q (⟨none,d,.v i⟩ :: r) af H = (evv af H i).bnd (kvE P Q d r af H):=by
 simp only [runE,doD,evi];rw [q7];rfl
theorem qyw (d:Option Nat) (x:List AV) (r:List GI) (af:AF) (H:List Ent):runE P Q (⟨none,d,.alo x⟩ :: r) af H = runE P Q r (put af d (.ptr H.length 0)) (H ++ [.blk x]):=Eq.trans rfl rfl
theorem qy5 (d:Option Nat) (t e:TypeId) (r:List GI) (af:AF) (H:List Ent):runE P Q (⟨none,d,.bld t e⟩ :: r) af H = runE P Q r (put af d (.ptr H.length 0)) (H ++ [.cus (bldR t e [])]):=Eq.trans rfl rfl
theorem q3i (d:Option Nat) (n:Nat) (c:Co) (a x:Opd) (r:List GI) (af:AF) (H:List Ent):runE P Q (⟨none,d,.st n c a x⟩ :: r) af H = (stv n c H (gt af x) (gt af a)).bnd (ksE P Q d r af):=by
 simp only [runE,doD,evi];rw [q7];rfl
theorem qt7 (d:Option Nat) (f:Opd) (l:List (Opd×Co)) (r:List GI) (af:AF) (H:List Ent):runE P Q (⟨none,d,.call f l⟩ :: r) af H = DApp P H (gt af f) (gco H af l) (gco H af (rawO l)) (kcE P Q d r af):=Eq.trans rfl rfl
theorem qbeo (t:Nat) (b:Bool) (d:Option Nat) (i:I) (r:List GI) (af:AF) (H:List Ent):runE P Q (⟨some (t,b),d,i⟩ :: r) af H = gdK P Q (get af.tm t) b d i (.E r) af H:=Eq.trans rfl rfl
attribute [go_sem] q7d q0u q4u qwc qbfb qyw qy5 q3i qt7 qbeo
end

theorem q81 {P:Program} {fr:Option Nat} {n m:Nat} {Q:VE->AF->List Ent->Prop} {af:AF} {H:List Ent} {l:List (GI×List Nat)} (hn:noUs l = true) (h:runE P Q (l.map (·.1)) af H):VI P fr n m (.drw l) Q af H:=quf (qc6 hn h)

section
variable {P:Program} {Q:VE->AF->List Ent->Prop}
def kv (P:Program) (Q:VE->AF->List Ent->Prop) (d:Option Nat) (r:List GI) (af:AF) (H:List Ent) (v:AV):Prop:=runL P Q r (put af d v) H
def kp (P:Program) (Q:VE->AF->List Ent->Prop) (d:Option Nat) (r:List GI) (af:AF) (p:AV×List Ent):Prop:=runL P Q r (put af d p.1) p.2
def ks (P:Program) (Q:VE->AF->List Ent->Prop) (d:Option Nat) (r:List GI) (af:AF) (H:List Ent):Prop:=runL P Q r (put af d (.tup [])) H
def kc (P:Program) (Q:VE->AF->List Ent->Prop) (d:Option Nat) (r:List GI) (af:AF) (H:List Ent) (o:VO):Prop :=
 match o with
 | .val v=>runL P Q r (put af d v) H
 | .pan v=>Q (.pan v) af H
theorem qbc2 (d:Option Nat) (r:List GI) (af:AF) (H:List Ent) (v:AV):kv P Q d r af H v = runL P Q r (put af d v) H:=Eq.trans rfl rfl
theorem qben (d:Option Nat) (r:List GI) (af:AF) (v:AV) (H:List Ent):kp P Q d r af (v,H) = runL P Q r (put af d v) H:=Eq.trans rfl rfl
theorem qbc5 (d:Option Nat) (r:List GI) (af:AF) (H:List Ent):ks P Q d r af H = runL P Q r (put af d (.tup [])) H:=Eq.trans rfl rfl
theorem qbey (d:Option Nat) (r:List GI) (af:AF) (H:List Ent) (v:AV):kc P Q d r af H (.val v) = runL P Q r (put af d v) H:=Eq.trans rfl rfl
theorem qban (d:Option Nat) (r:List GI) (af:AF) (H:List Ent) (v:AV):kc P Q d r af H (.pan v) = Q (.pan v) af H:=Eq.trans rfl rfl
theorem qzn (af:AF) (H:List Ent):runL P Q [] af H = Q .nrm af H:=Eq.trans rfl rfl
theorem qbfe (d:Option Nat) (i:IV) (r:List GI) (af:AF) (H:List Ent):runL P Q (⟨none,d,.v i⟩ :: r) af H = (evv af H i).bnd (kv P Q d r af H):=by
 simp only [runL,doI,evi];rw [q7];rfl
theorem qwo (d:Option Nat) (x:Opd) (r:List GI) (af:AF) (H:List Ent):runL P Q (⟨none,d,.box x⟩ :: r) af H = (boxv H (gt af x)).bnd (kp P Q d r af):=Eq.trans rfl rfl
theorem qwy (d:Option Nat) (x:List AV) (r:List GI) (af:AF) (H:List Ent):runL P Q (⟨none,d,.alo x⟩ :: r) af H = runL P Q r (put af d (.ptr H.length 0)) (H ++ [.blk x]):=Eq.trans rfl rfl
theorem qz3 (d:Option Nat) (t e:TypeId) (r:List GI) (af:AF) (H:List Ent):runL P Q (⟨none,d,.bld t e⟩ :: r) af H = runL P Q r (put af d (.ptr H.length 0)) (H ++ [.cus (bldR t e [])]):=Eq.trans rfl rfl
theorem q5j (d:Option Nat) (n:Nat) (c:Co) (a x:Opd) (r:List GI) (af:AF) (H:List Ent):runL P Q (⟨none,d,.st n c a x⟩ :: r) af H = (stv n c H (gt af x) (gt af a)).bnd (ks P Q d r af):=by
 simp only [runL,doI,evi];rw [q7];rfl
theorem qwj (d:Option Nat) (n:Nat) (z:AV) (b:Nat) (l c:Opd) (r:List GI) (af:AF) (H:List Ent):runL P Q (⟨none,d,.mks n z b l c⟩ :: r) af H = (mksv n z b H (gt af l) (gt af c)).bnd (kp P Q d r af):=Eq.trans rfl rfl
theorem qyf (d:Option Nat) (n:Nat) (z:AV) (b:Nat) (c:Co) (x y:Opd) (r:List GI) (af:AF) (H:List Ent):runL P Q (⟨none,d,.app n z b c x y⟩ :: r) af H = (appv n b H (gt af x) (gt af y)).bnd (kp P Q d r af):=Eq.trans rfl rfl
theorem qs6 (d:Option Nat) (f:Opd) (l:List (Opd×Co)) (r:List GI) (af:AF) (H:List Ent):runL P Q (⟨none,d,.call f l⟩ :: r) af H = VApp P H (gt af f) (gco H af l) (kc P Q d r af):=by
 have:(kc P Q d r af) = (fun H' o=>match o with | .val v=>runL P Q r (put af d v) H' | .pan v=>Q (.pan v) af H'):=by
  funext H' o;cases o<;>rfl
 rw [this];rfl
theorem qbbq (t:Nat) (b:Bool) (d:Option Nat) (i:I) (r:List GI) (af:AF) (H:List Ent):runL P Q (⟨some (t,b),d,i⟩ :: r) af H = gdK P Q (get af.tm t) b d i (.L r) af H:=Eq.trans rfl rfl
end

section
variable {P:Program} {Q:VE->AF->List Ent->Prop}
def dv (P:Program) (Q:VE->AF->List Ent->Prop) (acc:List FP) (us:List Nat) (fp:FP) (d:Option Nat) (r:List (GI×List Nat)) (af:AF) (H:List Ent) (v:AV):Prop:=qc0 acc us fp∧runD P Q (acc ++ [fp]) r (put af d v) H
def dp (P:Program) (Q:VE->AF->List Ent->Prop) (acc:List FP) (us:List Nat) (fp:FP) (d:Option Nat) (r:List (GI×List Nat)) (af:AF) (p:AV×List Ent):Prop:=qc0 acc us fp∧runD P Q (acc ++ [fp]) r (put af d p.1) p.2
def ds (P:Program) (Q:VE->AF->List Ent->Prop) (acc:List FP) (us:List Nat) (fp:FP) (d:Option Nat) (r:List (GI×List Nat)) (af:AF) (H:List Ent):Prop:=qc0 acc us fp∧runD P Q (acc ++ [fp]) r (put af d (.tup [])) H
def dc (P:Program) (Q:VE->AF->List Ent->Prop) (acc:List FP) (us:List Nat) (n:Nat) (rd:List Nat) (d:Option Nat) (r:List (GI×List Nat)) (af:AF) (top:Md) (v:AV) (H:List Ent):Prop:=qc0 acc us (fpC n rd top)∧runD P Q (acc ++ [fpC n rd top]) r (put af d v) H
variable (acc:List FP) (us:List Nat)
theorem qbep (fp:FP) (d:Option Nat) (r:List (GI×List Nat)) (af:AF) (H:List Ent) (v:AV):dv P Q acc us fp d r af H v = (qc0 acc us fp∧runD P Q (acc ++ [fp]) r (put af d v) H):=Eq.trans rfl rfl
theorem q9u (fp:FP) (d:Option Nat) (r:List (GI×List Nat)) (af:AF) (v:AV) (H:List Ent):dp P Q acc us fp d r af (v,H) = (qc0 acc us fp∧runD P Q (acc ++ [fp]) r (put af d v) H):=Eq.trans rfl rfl
theorem qbcw (fp:FP) (d:Option Nat) (r:List (GI×List Nat)) (af:AF) (H:List Ent):ds P Q acc us fp d r af H = (qc0 acc us fp∧runD P Q (acc ++ [fp]) r (put af d (.tup [])) H):=Eq.trans rfl rfl
theorem q9y (n:Nat) (rd:List Nat) (d:Option Nat) (r:List (GI×List Nat)) (af:AF) (H:List Ent) (top:Md) (v:AV):dc P Q acc us n rd d r af top v H = (qc0 acc us (fpC n rd top)∧runD P Q (acc ++ [fpC n rd top]) r (put af d v) H):=Eq.trans rfl rfl
theorem qyy (af:AF) (H:List Ent):runD P Q acc [] af H = Q .nrm af H:=Eq.trans rfl rfl
theorem qbbs (d:Option Nat) (i:IV) (r:List (GI×List Nat)) (af:AF) (H:List Ent):runD P Q acc ((⟨none,d,.v i⟩,us) :: r) af H = (evv af H i).bnd (dv P Q acc us { rd:=fpV af i } d r af H):=by
 simp only [runD,doD,evi];rw [q7];rfl
theorem qzj (d:Option Nat) (x:Opd) (r:List (GI×List Nat)) (af:AF) (H:List Ent):runD P Q acc ((⟨none,d,.box x⟩,us) :: r) af H = (boxv H (gt af x)).bnd (dp P Q acc us { wr:=[H.length],al:=true } d r af):=Eq.trans rfl rfl
theorem qy1 (d:Option Nat) (x:List AV) (r:List (GI×List Nat)) (af:AF) (H:List Ent):runD P Q acc ((⟨none,d,.alo x⟩,us) :: r) af H = (qc0 acc us { wr:=[H.length],al:=true }∧runD P Q (acc ++ [{ wr:=[H.length],al:=true }]) r (put af d (.ptr H.length 0)) (H ++ [.blk x])):=Eq.trans rfl rfl
theorem qzg (d:Option Nat) (t e:TypeId) (r:List (GI×List Nat)) (af:AF) (H:List Ent):runD P Q acc ((⟨none,d,.bld t e⟩,us) :: r) af H = (qc0 acc us { wr:=[H.length],al:=true }∧runD P Q (acc ++ [{ wr:=[H.length],al:=true }]) r (put af d (.ptr H.length 0)) (H ++ [.cus (bldR t e [])])):=Eq.trans rfl rfl
theorem q1v (d:Option Nat) (n:Nat) (c:Co) (a x:Opd) (r:List (GI×List Nat)) (af:AF) (H:List Ent):runD P Q acc ((⟨none,d,.st n c a x⟩,us) :: r) af H = (stv n c H (gt af x) (gt af a)).bnd (ds P Q acc us { rd:=rdCo c (gt af x),wr:=ptrE (gt af a) } d r af):=by
 simp only [runD,doD,evi];rw [q7];rfl
theorem qz7 (d:Option Nat) (n:Nat) (z:AV) (b:Nat) (l c:Opd) (r:List (GI×List Nat)) (af:AF) (H:List Ent):runD P Q acc ((⟨none,d,.mks n z b l c⟩,us) :: r) af H = (mksv n z b H (gt af l) (gt af c)).bnd (dp P Q acc us { wr:=[H.length],al:=true } d r af):=Eq.trans rfl rfl
theorem qym (d:Option Nat) (n:Nat) (z:AV) (b:Nat) (c:Co) (x y:Opd) (r:List (GI×List Nat)) (af:AF) (H:List Ent):runD P Q acc ((⟨none,d,.app n z b c x y⟩,us) :: r) af H = (appv n b H (gt af x) (gt af y)).bnd (dp P Q acc us { rd:=rowE (gt af y),wr:=H.length :: rowE (gt af x),al:=true } d r af):=Eq.trans rfl rfl
theorem qr6 (d:Option Nat) (f:Opd) (l:List (Opd×Co)) (r:List (GI×List Nat)) (af:AF) (H:List Ent):runD P Q acc ((⟨none,d,.call f l⟩,us) :: r) af H = DApp P H (gt af f) (gco H af l) (gco H af (rawO l)) (dc P Q acc us H.length (rdPs af l) d r af):=Eq.trans rfl rfl
theorem qbec (t:Nat) (b:Bool) (d:Option Nat) (i:I) (r:List (GI×List Nat)) (af:AF) (H:List Ent):runD P Q acc ((⟨some (t,b),d,i⟩,us) :: r) af H = gdK P Q (get af.tm t) b d i (.D acc us r) af H:=Eq.trans rfl rfl
theorem quk (fp:FP):qc0 acc [] fp = True:=rfl
theorem qqp (j:Nat) (fp:FP):qc0 acc (j :: us) fp = (okFP (acc.getD j {}) fp = true∧qc0 acc us fp):=rfl

theorem q6g {f:FuncId} {args:List AV} {H:List Ent} {r:AV} (h:qo P f args r):PApp P H (.fn f [] []) args r:=qa h fun _=>⟨rfl,rfl⟩
theorem qd {f:FuncId} {args:List AV} {H:List Ent} {raws:List AV} {r:AV} {K:Md->AV->List Ent->Prop} (h:qo P f args r) (k:K .off r H):DApp P H (.fn f [] []) args raws K:=.inr (.inl ⟨r,fun H₀=>q6g h,k⟩)
theorem q3l (n:Nat) (rd:List Nat):fpC n rd .off = { rd }:=rfl
theorem qyz (n:Nat) (rd:List Nat):fpC n rd .here = { rd,top:=true }:=rfl
theorem qwu (n:Nat) (rd:List Nat) (k:Nat) (e e':Ent):fpC n rd (.meth k e e') = { rd:=k :: rd,wr:=[k] }:=rfl
theorem qwk (n:Nat) (rd:List Nat) (e':Ent) (ln:Nat):fpC n rd (.grow none e' ln) = { rd,wr:=[n],al:=true }:=rfl
theorem qyn (n:Nat) (rd:List Nat) (p:Nat×Ent) (e':Ent) (ln:Nat):fpC n rd (.grow (some p) e' ln) = { rd:=p.1 :: rd,wr:=[n,p.1],al:=true }:=rfl
theorem q25 (n:Nat) (rd:List Nat) (e':Ent):fpC n rd (.lay e') = { rd,wr:=[n],al:=true }:=rfl
attribute [go_sem] q3l qyz qwu qwk qyn q25 rawO rawI rawL
end

def cor (e:Ent) (i len:Nat):AV :=
 match e with
 | .app n es=>if es.length = len then .sl n es else .row i len
 | _=>.row i len
section
variable (H:List Ent)
theorem qux (v:AV):co H .id v = v:=by unfold co;rfl
theorem qjt (n:Nat):co H (.sl n) .nils = .sl n []:=by unfold co;rfl
theorem qvg (n m:Nat) (es:List AV):co H (.sl n) (.lit m es) = .sl m es:=by unfold co;rfl
theorem qk0 (n m:Nat) (es:List AV):co H (.sl n) (.sl m es) = .sl m es:=by unfold co;rfl
theorem qvc (n i len:Nat):co H (.sl n) (.row i len) = cor (ent H i) i len:=by unfold co cor;rfl
theorem qs5 (l:List Co) (vs:List AV):co H (.agg l) (.agg vs) = .agg (cos H l vs):=by rw [co]
theorem qnj (vs:List AV):cos H [] vs = vs:=by cases vs<;>rw [cos]
theorem qkp (c:Co) (l:List Co) (v:AV) (vs:List AV):cos H (c :: l) (v :: vs) = co H c v :: cos H l vs:=by rw [cos]
theorem q8a (n:Nat) (es:List AV) (i len:Nat):cor (.app n es) i len = if es.length = len then .sl n es else .row i len:=rfl
theorem qx9 (n:Nat) (es:List AV) (i len:Nat):cor (.mrow n es) i len = .row i len:=rfl
end

theorem qbgh (A B:Prop):gd (.bool true) true A B = A:=Eq.trans rfl rfl
theorem qbgl (A B:Prop):gd (.bool true) false A B = B:=Eq.trans rfl rfl
theorem qbge (A B:Prop):gd (.bool false) true A B = B:=Eq.trans rfl rfl
theorem qbgj (A B:Prop):gd (.bool false) false A B = A:=Eq.trans rfl rfl
theorem q9x (b:Bool) (A B:Prop):gd (.tup []) b A B = B:=Eq.trans rfl rfl
theorem qxs (A B:Prop):cnd (.bool true) A B = A:=by simp [cnd]
theorem qsj (A B:Prop):cnd (.bool false) A B = B:=by simp [cnd]
theorem qbd8 {P:Program} {fr:Option Nat} {n m:Nat} {b:IC} {Q:VE->AF->List Ent->Prop} (af:AF) (H:List Ent):sq P fr n m b Q .nrm af H = VI P fr n m b Q af H:=Eq.trans rfl rfl
theorem qbeu {P:Program} {fr:Option Nat} {n m:Nat} {b:IC} {Q:VE->AF->List Ent->Prop} (i:Nat) (af:AF) (H:List Ent):sq P fr n m b Q (.ext i) af H = Q (.ext i) af H:=Eq.trans rfl rfl
theorem qbcz {P:Program} {fr:Option Nat} {n m:Nat} {b:IC} {Q:VE->AF->List Ent->Prop} (af:AF) (H:List Ent):sq P fr n m b Q .ret af H = Q .ret af H:=Eq.trans rfl rfl
theorem qbe1 {P:Program} {fr:Option Nat} {n m:Nat} {b:IC} {Q:VE->AF->List Ent->Prop} (v:AV) (af:AF) (H:List Ent):sq P fr n m b Q (.pan v) af H = Q (.pan v) af H:=Eq.trans rfl rfl
theorem q4t {id:Nat} {Q:VE->AF->List Ent->Prop} (af:AF) (H:List Ent):blq id Q .nrm af H = Q .nrm af H:=Eq.trans rfl rfl
theorem q6o {id i:Nat} {Q:VE->AF->List Ent->Prop} (af:AF) (H:List Ent):blq id Q (.ext i) af H = if i = id then Q .nrm af H else Q (.ext i) af H:=Eq.trans rfl rfl
theorem q2m {id:Nat} {Q:VE->AF->List Ent->Prop} (af:AF) (H:List Ent):blq id Q .ret af H = Q .ret af H:=Eq.trans rfl rfl
theorem q6y {id:Nat} {Q:VE->AF->List Ent->Prop} (v:AV) (af:AF) (H:List Ent):blq id Q (.pan v) af H = Q (.pan v) af H:=Eq.trans rfl rfl
theorem q91 {S:Type} {Inv:S->Prop} {st:S->AF×List Ent} {m:Nat} {Q:VE->AF->List Ent->Prop} (af:AF) (H:List Ent):lq Inv st m Q .nrm af H = At S Inv st m af H:=Eq.trans rfl rfl
theorem qbd2 {S:Type} {Inv:S->Prop} {st:S->AF×List Ent} {m i:Nat} {Q:VE->AF->List Ent->Prop} (af:AF) (H:List Ent):lq Inv st m Q (.ext i) af H = Q (.ext i) af H:=Eq.trans rfl rfl
theorem qbbi {S:Type} {Inv:S->Prop} {st:S->AF×List Ent} {m:Nat} {Q:VE->AF->List Ent->Prop} (af:AF) (H:List Ent):lq Inv st m Q .ret af H = Q .ret af H:=Eq.trans rfl rfl
theorem qbd7 {S:Type} {Inv:S->Prop} {st:S->AF×List Ent} {m:Nat} {Q:VE->AF->List Ent->Prop} (v:AV) (af:AF) (H:List Ent):lq Inv st m Q (.pan v) af H = Q (.pan v) af H:=Eq.trans rfl rfl
theorem qx5 {k:Nat} {rs:List (RV×Co)} {Q:List Ent->VO->Prop} (af:AF) (H:List Ent):retq k rs Q .ret af H = dlq af.dl H (retk k rs Q af):=Eq.trans rfl rfl
theorem qxe {k:Nat} {rs:List (RV×Co)} {Q:List Ent->VO->Prop} (af:AF) (H:List Ent):retq k rs Q .nrm af H = dlq af.dl H (retk k rs Q af):=Eq.trans rfl rfl
theorem qyl {k:Nat} {rs:List (RV×Co)} {Q:List Ent->VO->Prop} (v:AV) (af:AF) (H:List Ent):retq k rs Q (.pan v) af H = dlq af.dl H (pank k Q v):=Eq.trans rfl rfl
theorem q1g (H:List Ent) (K:List Ent->Prop):dlq [] H K = K H:=Eq.trans rfl rfl
theorem qx2 (i:Nat) (l:List AD) (H:List Ent) (K:List Ent->Prop):dlq (.mark i :: l) H K = (match ent H i with
 | .lp _ _=>dlq l (H.set i .dead) K
 | _=>False):=Eq.trans rfl rfl
theorem qxm {k:Nat} {rs:List (RV×Co)} {Q:List Ent->VO->Prop} (af:AF) (H:List Ent):retk k rs Q af H = ((qc3 af H rs).bnd fun l=>fin k Q H (.val (one l))):=Eq.trans rfl rfl
theorem qx1 {k:Nat} {Q:List Ent->VO->Prop} (v:AV) (H:List Ent):pank k Q v H = fin k Q H (.pan v):=Eq.trans rfl rfl

theorem qoc (v:AV):rdCo .id v = []:=by unfold rdCo;rfl
theorem qni (n i len:Nat):rdCo (.sl n) (.row i len) = [i]:=by unfold rdCo;rfl
theorem qfs (n m:Nat) (es:List AV):rdCo (.sl n) (.sl m es) = []:=by unfold rdCo;rfl
theorem qnv (n m:Nat) (es:List AV):rdCo (.sl n) (.lit m es) = []:=by unfold rdCo;rfl
theorem qlm (n:Nat):rdCo (.sl n) .nils = []:=by unfold rdCo;rfl
theorem qj4 (l:List Co) (vs:List AV):rdCo (.agg l) (.agg vs) = qh3 l vs:=by unfold rdCo;rfl
theorem qhq (vs:List AV):qh3 [] vs = []:=by unfold qh3;rfl
theorem qf9 (c:Co) (l:List Co) (v:AV) (vs:List AV):qh3 (c :: l) (v :: vs) = rdCo c v ++ qh3 l vs:=by rw [qh3]
attribute [go_sem] q1g qx2 qxm qx1 qyl
attribute [go_sem] AV.wf AV.wfs VO.wf
attribute [go_sem] qyy qbbs qzj qy1 qzg q1v qz7 qym qr6 qbec qbep q9u qbcw q9y quk qqp fpI fpV qoc qni qfs qnv qlm qj4 qhq qf9 rdPs ptrE rowE okFP disj nin
theorem q8w {α:Type} (a:α) (k:α->Prop):(Rs.ret a).bnd k = k a:=Eq.trans rfl rfl
theorem q70 {α:Type} (p:Prop) (r:Rs α) (k:α->Prop):(Rs.req p r).bnd k = (p∧r.bnd k):=Eq.trans rfl rfl
theorem q59 {α:Type} (k:α->Prop):(Rs.bad:Rs α).bnd k = False:=Eq.trans rfl rfl
attribute [go_sem] qzn qbfe qwo qwy qz3 q5j qwj qyf qs6 qbbq qbc2 qben qbc5 qbey qban qbgh qbgl qbge qbgj q9x qxs qsj qbd8 qbeu qbcz qbe1 q4t q6o q2m q6y q91 qbd2 qbbi qbd7 qx5 qxe qux qjt qvg qk0 qvc qs5 qnj qkp q8a qx9 evv gt get put q8w q70 q59 Rs.map ent gco gts gto ldv ldc lde stv stc fadv iadv aadv idxv idav slsv slp slf slm slvv lenv eqc eqcs fitc qi3 eqv binI shrI binX binS eqb binv unv mmv extv nckv cviv cvsv cbsv slav qdl qim tyav q6s spl bldv qz1 mksv qhg appE qef appv boxv AV.ren AV.rens AV.bd AV.bds Ent.ren Ent.bd AD.ren AD.bd tk Eqk.isIface qc3 one fin VO.bd qbs qel tmOK dlOK sg sg' q8
theorem qv3 (b:Bool) (n off:Nat) (cs:List AV):fldv b n off (.agg cs) = ldc b n off cs:=rfl
attribute [go_sem] qv3
theorem qve (cs:List AV):(AV.agg cs).isAgg = true:=rfl
theorem qt2 (k:IntKind) (n:Int):(AV.int k n).isAgg = false:=rfl
theorem qte (l:List UInt8):(AV.str l).isAgg = false:=rfl
theorem qqv (b:Bool):(AV.bool b).isAgg = false:=rfl
theorem qq0:AV.nilp.isAgg = false:=rfl
theorem qrg:AV.nilf.isAgg = false:=rfl
theorem qq8:AV.nili.isAgg = false:=rfl
theorem qqx:AV.nils.isAgg = false:=rfl
theorem qrr:AV.nilm.isAgg = false:=rfl
theorem qxl (n:Nat) (l:List AV):(AV.sl n l).isAgg = false:=rfl
theorem qua (n:Nat) (l:List AV):(AV.lit n l).isAgg = false:=rfl
theorem qsb (i o:Nat):(AV.ptr i o).isAgg = false:=rfl
theorem qsd (i o:Nat):(AV.row i o).isAgg = false:=rfl
theorem qrs (n:Nat) (l:List AV) (i o:Nat):(AV.eptr n l i o).isAgg = false:=rfl
theorem qrn (n k i o:Nat):(AV.rptr n k i o).isAgg = false:=rfl
theorem qxh (f:FuncId) (a b:List AV):(AV.fn f a b).isAgg = false:=rfl
theorem qvd (i:Nat):(AV.opq i).isAgg = false:=rfl
theorem qof (t:TypeId) (v:AV):(AV.iface t v).isAgg = false:=rfl
theorem qu0 (l:List AV):(AV.tup l).isAgg = false:=rfl
theorem qyg (cs:List AV):(AV.agg cs).leaf = false:=rfl
theorem qye (cs:List AV):(AV.tup cs).leaf = false:=rfl
theorem qzp (k:IntKind) (n:Int):(AV.int k n).leaf = true:=rfl
theorem qx3 (l:List UInt8):(AV.str l).leaf = true:=rfl
theorem qsv (b:Bool):(AV.bool b).leaf = true:=rfl
theorem qtp:AV.nilp.leaf = true:=rfl
theorem qsn:AV.nilf.leaf = true:=rfl
theorem qs9:AV.nili.leaf = true:=rfl
theorem qr3:AV.nils.leaf = true:=rfl
theorem qu6:AV.nilm.leaf = true:=rfl
theorem q8y (n:Nat) (l:List AV):(AV.sl n l).leaf = true:=rfl
theorem qw8 (n:Nat) (l:List AV):(AV.lit n l).leaf = true:=rfl
theorem qv7 (i o:Nat):(AV.ptr i o).leaf = true:=rfl
theorem qz5 (i o:Nat):(AV.row i o).leaf = true:=rfl
theorem qup (n:Nat) (l:List AV) (i o:Nat):(AV.eptr n l i o).leaf = true:=rfl
theorem qsx (n k i o:Nat):(AV.rptr n k i o).leaf = true:=rfl
theorem q7h (f:FuncId) (a b:List AV):(AV.fn f a b).leaf = true:=rfl
theorem qwv (i:Nat):(AV.opq i).leaf = true:=rfl
theorem qrj (t:TypeId) (v:AV):(AV.iface t v).leaf = true:=rfl
theorem qud (cs:List AV):(AV.agg cs).cells = cs:=rfl
theorem qt3 (k:IntKind) (n:Int):(AV.int k n).cells = [.int k n]:=rfl
theorem qul (l:List UInt8):(AV.str l).cells = [.str l]:=rfl
theorem qrp (b:Bool):(AV.bool b).cells = [.bool b]:=rfl
theorem qrh:AV.nilp.cells = [.nilp]:=rfl
theorem qqk:AV.nilf.cells = [.nilf]:=rfl
theorem qrl:AV.nili.cells = [.nili]:=rfl
theorem qru:AV.nils.cells = [.nils]:=rfl
theorem qq7:AV.nilm.cells = [.nilm]:=rfl
theorem qzb (n:Nat) (l:List AV):(AV.sl n l).cells = [.sl n l]:=rfl
theorem qs0 (n:Nat) (l:List AV):(AV.lit n l).cells = [.lit n l]:=rfl
theorem qvv (i o:Nat):(AV.ptr i o).cells = [.ptr i o]:=rfl
theorem qsl (i o:Nat):(AV.row i o).cells = [.row i o]:=rfl
theorem qqh (n:Nat) (l:List AV) (i o:Nat):(AV.eptr n l i o).cells = [.eptr n l i o]:=rfl
theorem qql (n k i o:Nat):(AV.rptr n k i o).cells = [.rptr n k i o]:=rfl
theorem qww (f:FuncId) (a b:List AV):(AV.fn f a b).cells = [.fn f a b]:=rfl
theorem qs4 (i:Nat):(AV.opq i).cells = [.opq i]:=rfl
theorem qnq (t:TypeId) (v:AV):(AV.iface t v).cells = [.iface t v]:=rfl
attribute [go_sem] qve qt2 qte qqv qq0 qrg qq8 qqx qrr qxl qua qsb qsd qrs qrn qxh qvd qof qu0 qyg qye qzp qx3 qsv qtp qsn qs9 qr3 qu6 q8y qw8 qv7 qz5 qup qsx q7h qwv qrj qud qt3 qul qrp qrh qqk qrl qru qq7 qzb qs0 qvv qsl qqh qql qww qs4 qnq
attribute [go_sem] List.length_cons List.length_nil List.nil_append List.cons_append List.append_nil List.getD_cons_zero List.getD_cons_succ List.set_cons_zero List.set_cons_succ List.take_succ_cons List.take_zero List.take_nil List.drop_succ_cons List.drop_zero List.drop_nil List.all_cons List.all_nil Bool.and_true Bool.true_and Bool.false_and Bool.and_false true_and and_true false_and and_false true_or or_true or_false false_or and_self or_self not_true_eq_false not_false_eq_true Bool.false_eq_true if_true if_false List.map_cons List.map_nil Bool.and_eq_true Int.toNat_natCast Int.natCast_nonneg
attribute [go_sem_proc] Nat.reduceEqDiff Nat.reduceAdd Nat.reduceSub Nat.reduceMul Nat.reduceLT Nat.reduceLeDiff reduceCtorEq Int.reduceToNat
end Go.V
