/- Texts of this proof, joined. -/
import Derived.Test.YtgglaabljlhliaaGreatLah
import Derived.RangeFuncRecord
set_option linter.unusedVariables false
set_option linter.unusedSimpArgs false

/-
 The value logic, part n, continued: a function value called out of a greater state; loops over functions: the record of a loop is laid, written, struck off.
-/
namespace Go.V
open Go Go.RowKit

section
variable {P:Program} {H H0:List Ent}

theorem qqw {sel:List Nat} {w:World} {M:Nat->Nat->Prop} {G:List Gh} (hn:sel.Nodup) (hlt:∀ i∈sel,i < H.length) (hl:sel.length = H0.length)
 (hent:∀ (j:Nat) (e:Ent),H0[j]? = some e->e = .dead∨(e.bd H0.length = true∧H[sg sel j]? = some (e.ren (sg sel)))) (hst:St w M G H) :
 ∃ G0,St w M G0 H0∧∀ (j:Nat) (g₀:Gh),G0[j]? = some g₀->∃ g:Gh,G[sg sel j]? = some g∧g₀.core = g.core∧∀ b,g₀.fp b->g.fp b:=by
 have hinj:∀ i j,i < H0.length->j < H0.length->sg sel i = sg sel j->i = j:=fun i j hi hj he=>by
  have h1:=qeo (sel:=sel) (j:=i) (by omega)
  have h2:=qeo (sel:=sel) (j:=j) (by omega)
  rw [he,← h2] at h1
  exact (List.getElem?_inj (by omega) hn).1 h1
 have key:=qic (n:=0) (m:=0) (σ:=sg sel) (af:=⟨[],[]⟩) (af':=⟨[],[]⟩) (a:={ tmps:=#[],defers:=[] }) hst ⟨rfl,rfl,fun t=>trivial⟩
  ⟨fun i hi=>by omega,Nat.zero_le _,hinj,hent,fun j hj=>hlt _ (List.mem_of_getElem? (qeo (by omega))),fun t=>.inl rfl,fun d hd=>(by cases hd),rfl⟩
 refine ⟨_,key.2.1,fun j g₀ hg=>?_⟩
 have hj:=(List.getElem?_eq_some_iff.1 hg).1
 rw [key.2.1.len] at hj
 have hlt':=hlt _ (List.mem_of_getElem? (qeo (sel:=sel) (j:=j) (by omega)))
 rw [← hst.len] at hlt'
 have hq:=qk8 (sg sel) G H0 0 j _ (List.getElem?_eq_getElem hj)
 rw [Nat.zero_add] at hq
 rw [hq] at hg
 have hgd:G.getD (sg sel j) {} = G[sg sel j]:=by rw [List.getD_eq_getElem?_getD,List.getElem?_eq_getElem hlt'];rfl
 rw [hgd] at hg
 simp only [Option.some.injEq] at hg
 refine ⟨G[sg sel j],List.getElem?_eq_getElem hlt',?_,fun b hb=>?_⟩
 ·rw [← hg];split<;>rfl
 ·rw [← hg] at hb
  split at hb
  ·exact hb.elim
  ·exact hb

end

/-! ### The record of a loop over a function -/

section
variable {P:Program} {w:World} {M:Nat->Nat->Prop} {G:List Gh} {H:List Ent} {i:Nat} {g:Gh} {d:LpD} {as:List AV}

theorem qjl {r b:Nat} {o:Obj} (h:b≠r):(w.putObj r o).heap[b]? = w.heap[b]?:=World.putObj_heap_other h

theorem q08 (hst:St w M G H) (hg:G[i]? = some g) (hH:H[i]? = some (.lp d as)) :
 ∃ G',w.heap[g.cap]? = some (.deferred (some []))∧St (w.putObj g.cap (.deferred none)) M G' (H.set i .dead)∧Ext w M G (w.putObj g.cap (.deferred none)) M G':=by
 obtain ⟨h1,⟨vs,h2,h3⟩,h4,h5,h6,h7⟩:=hst.ok i g _ hg hH
 have hle:Le w M (w.putObj g.cap (.deferred none)) M:=fun b o hm=>⟨hm,World.cell?_of_block (qjl fun e=>h7 o (e ▸ hm))⟩
 have hold:∀ b,b < w.heap.size->¬ g.fp b->(w.putObj g.cap (.deferred none)).heap[b]? = w.heap[b]?:=fun b hb hn=>qjl fun e=>hn ((h1 _).2 (.inr e))
 have hi:=(List.getElem?_eq_some_iff.1 hg).1
 refine ⟨G.set i { g with fp:=fun _=>False },h4,qil hst hg rfl (fun _ h=>h.elim) (by simp) hold hle (fun b o h=>.inl h) (fun b hb=>hb),⟨rfl,rfl,rfl,by simp,fun j g₀ hj=>?_,hle,fun b hb hn=>hold b hb (fun h=>hn ⟨i,g,hg,h⟩),fun b ⟨j,g₁,hj,hb⟩=>?_,fun b o hm=>.inl hm⟩⟩
 ·by_cases hji:i = j
  ·subst hji
   rw [hg] at hj;cases hj
   exact ⟨{ g with fp:=fun _=>False },by simp [hi],rfl⟩
  ·exact ⟨g₀,by rw [List.getElem?_set_ne hji];exact hj,rfl⟩
 ·by_cases hji:i = j
  ·subst hji;simp [hi] at hj;subst hj;exact hb.elim
  ·rw [List.getElem?_set_ne hji] at hj;exact .inl ⟨j,g₁,hj,hb⟩

theorem qbd8 (h:ent H i = .lp d as):H[i]? = some (.lp d as):=q9 h (by simp)
end

def ranq (Q:VE->AF->List Ent->Prop) (af:AF) (k:Nat) (H:List Ent):VO->Prop
 | .val _ => match ent H k with
   | .lp ⟨.ready,none,fn,ps,a,b⟩ as=>Q .nrm ⟨af.tm,.mark k :: af.dl⟩ (H.set k (.lp ⟨.exhausted,none,fn,ps,a,b⟩ as))
   | .lp ⟨.done,some .ret,fn,ps,a,b⟩ as=>Q .ret ⟨af.tm,.mark k :: af.dl⟩ (H.set k (.lp ⟨.exhausted,some .ret,fn,ps,a,b⟩ as))
   | .lp ⟨.done,some (.exit id),fn,ps,a,b⟩ as=>Q (.ext id) ⟨af.tm,.mark k :: af.dl⟩ (H.set k (.lp ⟨.exhausted,some (.exit id),fn,ps,a,b⟩ as))
   | _=>False
 | .pan v=>Q (.pan v) ⟨af.tm,.mark k :: af.dl⟩ H

section
variable {P:Program} {n m:Nat} {Q:VE->AF->List Ent->Prop} {af:AF} {H:List Ent} {a b:IC}

end

/-! ### What every value that is there obeys -/

mutual
def AV.wf:AV->Prop
 | .int k n=>(Lit.int k n).wf = true
 | .str l=>l.length≤maxLen
 | .sl _ es=>es.length≤maxLen∧AV.wfs es
 | .lit _ es=>es.length≤maxLen∧AV.wfs es
 | .eptr _ es _ _=>es.length≤maxLen∧AV.wfs es
 | .agg cs=>AV.wfs cs
 | .tup cs=>AV.wfs cs
 | .fn _ a b=>AV.wfs a∧AV.wfs b
 | .iface _ v=>v.wf
 | .bool _ | .nilp | .nilf | .nili | .nils | .nilm | .ptr _ _ | .row _ _ | .rptr _ _ _ _ | .vw _ _ _ _ | .opq _ | .junk=>True
def AV.wfs:List AV->Prop
 | []=>True
 | v :: r=>v.wf∧AV.wfs r
end
def VO.wf:VO->Prop
 | .val v=>v.wf
 | .pan v=>v.wf
theorem qou (l:List AV):AV.wfs l ↔ ∀ v∈l,v.wf:=by
 induction l with
 | nil=>simp [AV.wfs]
 | cons v r ih=>simp [AV.wfs,ih]

section
variable {w:World} {M:Nat->Nat->Prop} {G:List Gh}
theorem qot {n:Nat} {us:List Value} {a:Option Addr} {cap:Nat} (h:SlOK w M n us a cap):us.length≤maxLen:=Nat.le_trans h.1 h.2.1
mutual
theorem q8w:∀ (v:AV) (x:Value),VR w M G v x->v.wf
 | .bool _,x,h=>trivial
 | .int _ _,x,h=>h.2
 | .str _,x,h=>h.2
 | .nilp,x,h=>trivial
 | .nilf,x,h=>trivial
 | .nili,x,h=>trivial
 | .nils,x,h=>trivial
 | .nilm,x,h=>trivial
 | .junk,x,h=>trivial
 | .agg cs,x,h=>by obtain ⟨vs,_,h⟩:=h;exact qii cs vs h
 | .tup cs,x,h=>by obtain ⟨vs,_,h⟩:=h;exact qii cs vs h
 | .sl n es, x, h => by
   obtain ⟨a,cap,us,h1,h2,_⟩:=h
   exact ⟨by rw [← qe h1];exact qot h2,qii es us h1⟩
 | .lit n es, x, h => by
   obtain ⟨a,us,h1,h2,_⟩:=h
   exact ⟨by rw [← qe h1];exact qot h2,qii es us h1⟩
 | .ptr i off,x,h=>trivial
 | .row i len,x,h=>trivial
 | .eptr n es q off, x, h => by
   obtain ⟨a,cap,us,h1,h2,_⟩:=h
   exact ⟨by rw [← qe h1];exact qot h2,qii es us h1⟩
 | .rptr i n q off,x,h=>trivial
 | .vw i off len cap,x,h=>trivial
 | .fn f first caps, x, h => by
   obtain ⟨xs,ys,h1,h2,_⟩:=h
   exact ⟨qii first xs h1,qii caps ys h2⟩
 | .opq i,x,h=>trivial
 | .iface t v, x, h => by
   obtain ⟨y,h1,_⟩:=h
   exact q8w v y h1
theorem qii:∀ (vs:List AV) (xs:List Value),VRs w M G vs xs->AV.wfs vs
 | [],xs,h=>trivial
 | c :: cs, xs, h => by
   obtain ⟨v,r,_,h1,h2⟩:=h
   exact ⟨q8w c v h1,qii cs r h2⟩
end
end

theorem VCalls.mono' {P:Program} {f:FuncId} {H:List Ent} {args:List AV} {Q Q':List Ent->VO->Prop} (h:VCalls P f H args Q) (hq:∀ H' o,o.wf->Q H' o->Q' H' o):VCalls P f H args Q' :=
 ⟨h.1,fun w M G vs hst hv=>CallsIn.mono (h.2 w M G vs hst hv) fun e w' he=>by
  cases e with
  | returned x=>obtain ⟨M',G',H',v,h1,h2,h3,h4⟩:=he;exact ⟨M',G',H',v,hq _ _ (q8w v x h4) h1,h2,h3,h4⟩
  | panicked c=>obtain ⟨M',G',H',v,x,h1,h2,h3,h4,h5⟩:=he;exact ⟨M',G',H',v,x,hq _ _ (q8w v x h4) h1,h2,h3,h4,h5⟩
  | outgrown=>exact he⟩

theorem qig {P:Program} {f:FuncId} {H:List Ent} {args:List AV} {Q:List Ent->VO->Prop} (ho:okF P f = true) (h:AV.wfs args->VCalls P f H args Q):VCalls P f H args Q :=
 ⟨ho,fun w M G vs hst hv=>(h (qii args vs hv)).2 w M G vs hst hv⟩

/-! ### A state said with less, by lists -/

def qgk (H:List Ent) (sel:List Nat) (k:Nat):List Ent->List Nat->Prop
 | [],[]=>True
 | .dead :: r,i :: is=>i < H.length∧qgk H sel k r is
 | e :: r,i :: is=>(i < H.length∧e.bd k = true∧ent H i = e.ren (sg sel))∧qgk H sel k r is
 | _,_=>False
def tmOK (tm:List (Nat×AV)) (sel:List Nat) (k:Nat):List (Nat×AV)->Prop
 | []=>True
 | (t,v) :: r=>(v.bd k = true∧get tm t = v.ren (sg sel))∧tmOK tm sel k r
def dlOK (sel:List Nat) (k:Nat):List AD->List AD->Prop
 | [],[]=>True
 | d :: r,d' :: r'=>(d'.bd k = true∧d = d'.ren (sg sel))∧dlOK sel k r r'
 | _,_=>False

section
variable {P:Program} {fr:Option Nat} {n m:Nat} {Q Q':VE->AF->List Ent->Prop} {af af':AF} {H H':List Ent} {a b:IC}

theorem qbt {sel:List Nat} {k:Nat}:∀ {l:List Ent} {is:List Nat},qgk H sel k l is->l.length = is.length∧∀ (j:Nat) (e:Ent) (i:Nat),l[j]? = some e->is[j]? = some i->i < H.length∧(e = .dead∨(e.bd k = true∧H[i]? = some (e.ren (sg sel))))
 | [],[],_=>⟨rfl,fun j e i h=>by simp at h⟩
 | [],i :: is,h=>h.elim
 | e :: r,[],h=>by cases e<;>exact h.elim
 | .dead :: r, i :: is, h => by
   obtain ⟨h1,h2⟩:=h
   obtain ⟨h3,h4⟩:=qbt h2
   refine ⟨by simp [h3],fun j e i' he hi=>?_⟩
   cases j with
   | zero=>simp at he hi;subst he hi;exact ⟨h1,.inl rfl⟩
   | succ j=>exact h4 j e i' (by simpa using he) (by simpa using hi)
 | .blk cs :: r, i :: is, h => by
   obtain ⟨⟨h0,h1,h5⟩,h2⟩:=h
   obtain ⟨h3,h4⟩:=qbt h2
   refine ⟨by simp [h3],fun j e i' he hi=>?_⟩
   cases j with
   | zero=>simp at he hi;subst he hi;exact ⟨h0,.inr ⟨h1,q9 h5 (by simp [Ent.ren])⟩⟩
   | succ j=>exact h4 j e i' (by simpa using he) (by simpa using hi)
 | .app q es :: r, i :: is, h => by
   obtain ⟨⟨h0,h1,h5⟩,h2⟩:=h
   obtain ⟨h3,h4⟩:=qbt h2
   refine ⟨by simp [h3],fun j e i' he hi=>?_⟩
   cases j with
   | zero=>simp at he hi;subst he hi;exact ⟨h0,.inr ⟨h1,q9 h5 (by simp [Ent.ren])⟩⟩
   | succ j=>exact h4 j e i' (by simpa using he) (by simpa using hi)
 | .mrow q es :: r, i :: is, h => by
   obtain ⟨⟨h0,h1,h5⟩,h2⟩:=h
   obtain ⟨h3,h4⟩:=qbt h2
   refine ⟨by simp [h3],fun j e i' he hi=>?_⟩
   cases j with
   | zero=>simp at he hi;subst he hi;exact ⟨h0,.inr ⟨h1,q9 h5 (by simp [Ent.ren])⟩⟩
   | succ j=>exact h4 j e i' (by simpa using he) (by simpa using hi)
 | .lp d as :: r, i :: is, h => by
   obtain ⟨⟨h0,h1,h5⟩,h2⟩:=h
   obtain ⟨h3,h4⟩:=qbt h2
   refine ⟨by simp [h3],fun j e i' he hi=>?_⟩
   cases j with
   | zero=>simp at he hi;subst he hi;exact ⟨h0,.inr ⟨h1,q9 h5 (by simp [Ent.ren])⟩⟩
   | succ j=>exact h4 j e i' (by simpa using he) (by simpa using hi)
 | .cus R :: r, i :: is, h => by
   obtain ⟨⟨h0,h1,h5⟩,h2⟩:=h
   obtain ⟨h3,h4⟩:=qbt h2
   refine ⟨by simp [h3],fun j e i' he hi=>?_⟩
   cases j with
   | zero=>simp at he hi;subst he hi;exact ⟨h0,.inr ⟨h1,q9 h5 (by simp [Ent.ren])⟩⟩
   | succ j=>exact h4 j e i' (by simpa using he) (by simpa using hi)

theorem qq7 {tm:List (Nat×AV)} {sel:List Nat} {k:Nat}:∀ {l:List (Nat×AV)},tmOK tm sel k l->∀ t,get l t = .junk∨((get l t).bd k = true∧get tm t = (get l t).ren (sg sel))
 | [],_,t=>.inl rfl
 | (s, v) :: r, h, t => by
   obtain ⟨⟨h1,h2⟩,h3⟩:=h
   simp only [get]
   by_cases hst:s = t
   ·subst hst;rw [if_pos rfl];exact .inr ⟨h1,h2⟩
   ·rw [if_neg hst];exact qq7 h3 t

theorem qqr {sel:List Nat} {k:Nat}:∀ {l l':List AD},dlOK sel k l l'->(∀ d∈l',d.bd k = true)∧l = l'.map (AD.ren (sg sel))
 | [],[],_=>⟨fun d h=>(by cases h),rfl⟩
 | [],d :: r,h=>h.elim
 | d :: r,[],h=>h.elim
 | d :: r, d' :: r', h => by
   obtain ⟨⟨h1,h2⟩,h3⟩:=h
   obtain ⟨h4,h5⟩:=qqr h3
   refine ⟨fun x hx=>?_,by rw [List.map_cons,← h5,← h2]⟩
   rcases List.mem_cons.1 hx with rfl | hx
   ·exact h1
   ·exact h4 x hx

def qb6m (m:Nat) (sel:List Nat):Prop:=sel.take m = List.range m

theorem qx0 (sel:List Nat) (hf:qb6m m sel) (hn:sel.Nodup) (he:qgk H sel H'.length H' sel) (ht:tmOK af.tm sel H'.length af'.tm) (hd:dlOK sel H'.length af.dl af'.dl):Wk m af H af' H':=by
 obtain ⟨h1,h2⟩:=qbt he
 obtain ⟨h3,h4⟩:=qqr hd
 have hml:m≤sel.length:=by
  have:=congrArg List.length hf
  simp at this;omega
 refine ⟨sg sel,fun i hi=>?_,by omega,fun i j hi hj e=>?_,fun j e hj=>?_,fun j hj=>?_,qq7 ht,h3,h4⟩
 ·have h5:(sel.take m)[i]? = some i:=by rw [hf];simp [hi]
  rw [List.getElem?_take_of_lt hi,qeo (by omega)] at h5
  simpa using h5
 ·have h1:=qeo (sel:=sel) (j:=i) (by omega)
  have h2:=qeo (sel:=sel) (j:=j) (by omega)
  rw [e,← h2] at h1
  exact (List.getElem?_inj (by omega) hn).1 h1
 ·have hj':=(List.getElem?_eq_some_iff.1 hj).1
  exact (h2 j e _ hj (qeo (by omega))).2
 ·exact (h2 j _ _ (List.getElem?_eq_getElem hj) (qeo (by omega))).1

theorem qf {S:Type} {Inv:S->Prop} {st:S->AF×List Ent} (s:S) (sel:List Nat) (hs:Inv s) (hf:qb6m m sel) (hn:sel.Nodup) (he:qgk H sel (st s).2.length (st s).2 sel) (ht:tmOK af.tm sel (st s).2.length (st s).1.tm)
 (hd:dlOK sel (st s).2.length af.dl (st s).1.dl):At S Inv st m af H:=⟨s,hs,qx0 sel hf hn he ht hd⟩
end

/-! ### Functions -/

inductive RV where
 | t (n:Nat)
 | c (agg:Bool) (n a:Nat)

def cRes (P:Program):List ResultVar->List TypeId->Option (List (RV×Co))
 | [],_=>some []
 | .tmp t :: r, ts => match cRes P r ts.tail with
   | some l=>some ((.t t,match ts.head? with | some t=>coT P t | none=>.id) :: l)
   | none=>none
 | .cell a t :: r, ts => match aggT P t, qbw P t, cRes P r ts.tail with
   | some g,some n,some l=>some ((.c g n a,match ts.head? with | some t=>coT P t | none=>.id) :: l)
   | _,_,_=>none

def cFun (P:Program) (f:FuncId):Option (Nat×IC×List (RV×Co)) :=
 match P.funcs[f]? with
 | some fn => if fn.name == "runtime.NumGoroutine" then none else match fn.body with
   | some c => match qce P fn.ntmps c, cRes P fn.results.toList fn.resultTypes.toList with
     | some ic,some rs=>some (fn.ntmps,ic,rs)
     | _,_=>none
   | none=>none
 | none=>none

def qen (af:AF) (H:List Ent):List (RV×Co)->Rs (List AV)
 | []=>.ret []
 | (.t t,c) :: r=>(qen af H r).map fun l=>co H c (get af.tm t) :: l
 | (.c g n a, c) :: r => match ldv g n H (get af.tm a) with
   | .ret v=>(qen af H r).map fun l=>co H c v :: l
   | .req p (.ret v)=>.req p ((qen af H r).map fun l=>co H c v :: l)
   | .req p (.req q (.ret v))=>.req p (.req q ((qen af H r).map fun l=>co H c v :: l))
   | _=>.bad
def one:List AV->AV
 | [v]=>v
 | l=>.tup l

def fin (k:Nat) (Q:List Ent->VO->Prop) (H:List Ent) (o:VO):Prop :=
 k≤H.length∧(H.take k).all (Ent.bd k) = true∧o.bd k = true∧Q (H.take k) o

def dlq:List AD->List Ent->(List Ent->Prop)->Prop
 | [],H,K=>K H
 | .mark i :: l, H, K => match ent H i with
   | .lp _ _=>dlq l (H.set i .dead) K
   | _=>False
 | .dfr _ _ :: _,_,_=>False

def retk (k:Nat) (rs:List (RV×Co)) (Q:List Ent->VO->Prop) (af:AF) (H:List Ent):Prop :=
 (qen af H rs).bnd fun l=>fin k Q H (.val (one l))
def pank (k:Nat) (Q:List Ent->VO->Prop) (v:AV) (H:List Ent):Prop:=fin k Q H (.pan v)

def retq (k:Nat) (rs:List (RV×Co)) (Q:List Ent->VO->Prop):VE->AF->List Ent->Prop
 | .nrm,af,H | .ret,af,H=>dlq af.dl H (retk k rs Q af)
 | .pan v,af,H=>dlq af.dl H (pank k Q v)
 | _,_,_=>False

theorem qe6 {K K':List Ent->Prop} (h:∀ H,K H->K' H):∀ {l:List AD} {H:List Ent},dlq l H K->dlq l H K'
 | [],H,hq=>h H hq
 | .mark i :: l, H, hq => by
   simp only [dlq] at hq ⊢
   split at hq
   ·exact qe6 h hq
   ·exact hq.elim
 | .dfr _ _ :: _,_,hq=>hq.elim

def qbr:Nat->List AV->List (Nat×AV)
 | _,[]=>[]
 | i,a :: r=>(i,a) :: qbr (i + 1) r

section
variable {P:Program} {w:World} {M:Nat->Nat->Prop} {G:List Gh} {n m:Nat} {af:AF} {H:List Ent} {a:Act}

mutual
theorem AV.ren_id:∀ v:AV,v.ren id = v
 | .bool _ | .int _ _ | .str _ | .nilp | .nilf | .nili | .nils | .nilm | .junk | .ptr _ _ | .row _ _ | .rptr _ _ _ _ | .vw _ _ _ _ | .opq _=>rfl
 | .agg cs | .tup cs | .sl _ cs | .lit _ cs | .eptr _ cs _ _=>by simp only [AV.ren,AV.rens_id cs]
 | .fn f a b=>by simp only [AV.ren,AV.rens_id a,AV.rens_id b]
 | .iface t v=>by simp only [AV.ren,AV.ren_id v]
theorem AV.rens_id:∀ l:List AV,AV.rens id l = l
 | []=>rfl
 | v :: r=>by simp only [AV.rens,AV.ren_id v,AV.rens_id r]
end
theorem Ent.ren_id (e:Ent):e.ren id = e:=by cases e<;>simp only [Ent.ren,AV.rens_id]

theorem qhd (hst:St w M G H) (hr:RelF w M G n af a):∀ {rs:List ResultVar} {ts:List TypeId} {l:List (RV×Co)} {K:List AV->Prop},cRes P rs ts = some l->(qen af H l).bnd K →
 ∃ vs xs,K vs∧VRs w M G vs xs∧(rs.mapM (m:=Sem) fun | .tmp t=>pure (a.tmps.getD t undef) | .cell q t=>do loadVar t (← asAddr (a.tmps.getD q undef))).run P w = .ok xs w
 | [], ts, l, K, hc, h => by
   simp only [cRes,Option.some.injEq] at hc;subst hc
   exact ⟨[],[],h,rfl,rfl⟩
 | .tmp t :: r, ts, l, K, hc, h => by
   simp only [cRes] at hc
   split at hc
   ·rename_i l' hl
    simp only [Option.some.injEq] at hc;subst hc
    simp only [qen] at h
    rw [qbo] at h
    obtain ⟨vs,xs,h1,h2,h3⟩:=qhd hst hr hl h
    refine ⟨_,_,h1,⟨_,_,rfl,qcy hst _ _ _ (hr.rd t),h2⟩,?_⟩
    simp only [List.mapM_cons,Sem.run_bind,Sem.run_pure,Result.andThen_ok,h3]
   ·cases hc
 | .cell q t :: r, ts, l, K, hc, h => by
   simp only [cRes] at hc
   split at hc
   ·rename_i g k l' hg hk hl
    simp only [Option.some.injEq] at hc;subst hc
    have hld:∃ v:AV,(ldv g k H (get af.tm q)).bnd (fun u=>u = v)∧((qen af H l').map fun l=>co H (match ts.head? with | some t=>coT P t | none=>.id) v :: l).bnd K:=by
     simp only [qen] at h
     split at h
     ·rename_i v hv;exact ⟨v,by rw [hv];rfl,h⟩
     ·rename_i p v hv;exact ⟨v,by rw [hv];exact ⟨h.1,rfl⟩,h.2⟩
     ·rename_i p p' v hv;exact ⟨v,by rw [hv];exact ⟨h.1,h.2.1,rfl⟩,h.2.2⟩
     ·exact h.elim
    obtain ⟨v,hv,h⟩:=hld
    rw [qbo] at h
    obtain ⟨vs,xs,h1,h2,h3⟩:=qhd hst hr hl h
    obtain ⟨u,x,q1,q2,q3⟩:=qle (P:=P) (t:=t) hst hg hk (hr.rd q) hv
    subst q1
    have hsp:(do loadVar t (← asAddr (a.tmps.getD q undef)):Sem Value).run P w = .ok x w:=by
     have hrd:=hr.rd q
     cases hp:get af.tm q<;>rw [hp] at hv hrd<;>simp only [ldv,Rs.bnd] at hv
     ·obtain ⟨g',_,hx⟩:=hrd
      rw [hx] at q3 ⊢
      rw [qbj] at q3
      simp only [Sem.run_bind,asAddr,Sem.run_pure,Result.andThen_ok];exact q3
     ·obtain ⟨ad,cap,us,_,hsl,_,hx⟩:=hrd
      rw [hx] at q3 ⊢
      rw [qbj] at q3
      simp only [Sem.run_bind,asAddr,Sem.run_pure,Result.andThen_ok];exact q3
     ·obtain ⟨g',_,hx⟩:=hrd
      rw [hx] at q3 ⊢
      rw [qbj] at q3
      simp only [Sem.run_bind,asAddr,Sem.run_pure,Result.andThen_ok];exact q3
    refine ⟨_,_,h1,⟨_,_,rfl,qcy hst _ _ _ q2,h2⟩,?_⟩
    simp only [Sem.run_bind] at hsp
    simp only [List.mapM_cons,Sem.run_bind,hsp,Result.andThen_ok,h3,Sem.run_pure]
   ·cases hc

theorem qee {fn:Func} {l:List (RV×Co)} {K:List AV->Prop} (hst:St w M G H) (hr:RelF w M G n af a) (hc:cRes P fn.results.toList fn.resultTypes.toList = some l) (h:(qen af H l).bnd K) :
 ∃ vs x,K vs∧VR w M G (one vs) x∧(results fn a.tmps).run P w = .ok x w:=by
 obtain ⟨vs,xs,h1,h2,h3⟩:=qhd hst hr hc h
 have hm:(fn.results.mapM (m:=Sem) fun | .tmp t=>pure (a.tmps.getD t undef) | .cell q t=>do loadVar t (← asAddr (a.tmps.getD q undef))).run P w = .ok xs.toArray w:=by
  rw [← Array.toArray_toList (xs:=fn.results)]
  rw [List.mapM_toArray]
  simp only [Sem.run_map,h3]
  rfl
 have hl:=qe h2
 refine ⟨vs,(if h:xs.toArray.size = 1 then xs.toArray[0] else .tuple xs.toArray),h1,?_,?_⟩
 ·match vs,h2 with
  | [],h2=>simp only [VRs] at h2;subst h2;exact ⟨[],by simp,rfl⟩
  | [v], h2 =>
    obtain ⟨x,r,rfl,h4,h5⟩:=h2
    simp only [VRs] at h5;subst h5
    exact h4
  | v :: v' :: r, h2 =>
    have:xs.toArray.size≠1:=by simp at hl ⊢;omega
    rw [dif_neg this]
    exact ⟨xs,rfl,h2⟩
 ·simp only [results,Sem.run_bind]
  erw [hm]
  simp only [Result.andThen_ok,Sem.run_pure]

theorem qep {k:Nat} {Q:List Ent->VO->Prop} {o:VO} (hst:St w M G H) (h:fin k Q H o) (hm:m≤k):∃ G',ExtM m w M G w M G'∧St w M G' (H.take k)∧Q (H.take k) o∧∀ (v:AV) (x:Value),v.bd k = true->VR w M G v x->VR w M G' v x:=by
 obtain ⟨h1,h2,h3,h4⟩:=h
 have hl:(H.take k).length = k:=by rw [List.length_take];omega
 have key:=qic (n:=0) (m:=m) (σ:=id) (af:=⟨[],[]⟩) (H':=H.take k) (af':=⟨[],[]⟩) (a:={ tmps:=#[],defers:=[] }) hst ⟨rfl,rfl,fun t=>trivial⟩
  ⟨fun i _=>rfl,by omega,fun i j _ _ e=>e,fun j e he=>.inr ⟨by rw [hl];exact (List.all_eq_true.1 h2) e (List.mem_of_getElem? he),by
   rw [Ent.ren_id]
   have hj:=(List.getElem?_eq_some_iff.1 he).1
   rw [List.getElem?_take_of_lt (by omega)] at he
   exact he⟩,fun j hj=>by simp only [id];omega,fun t=>.inl rfl,fun d hd=>(by cases hd),rfl⟩
 refine ⟨_,key.1,key.2.1,h4,fun v x hb hv=>?_⟩
 have hv':VR w M G (v.ren id) x:=by rw [AV.ren_id];exact hv
 refine q40 (σ:=id) (k:=k) (fun i g hi hg=>?_) v x hb hv'
 have hi':i < (H.take k).length:=by omega
 have hq:=qk8 id G (H.take k) 0 i _ (List.getElem?_eq_getElem hi')
 rw [Nat.zero_add] at hq
 have hg':G.getD (id i) {} = g:=by rw [List.getD_eq_getElem?_getD,hg];rfl
 rw [hg'] at hq
 refine ⟨_,hq,?_⟩
 split<;>rfl

theorem qcb:∀ {args:List AV} {i t:Nat},get (qbr i args) t = if i≤t then args.getD (t - i) .junk else .junk
 | [],i,t=>by simp [qbr,get]
 | a :: r, i, t => by
   simp only [qbr,get]
   by_cases h:i = t
   ·subst h;simp
   ·rw [if_neg h,qcb]
    by_cases h2:i≤t
    ·rw [if_pos (by omega),if_pos h2]
     obtain ⟨d,rfl⟩:∃ d,t = i + 1 + d:=⟨t - i - 1,by omega⟩
     rw [show i + 1 + d - (i + 1) = d by omega,show i + 1 + d - i = d + 1 by omega]
     rfl
    ·rw [if_neg (by omega),if_neg h2]
end

section
variable {P:Program} {f:FuncId} {n k:Nat} {ic:IC} {rs:List (RV×Co)} {H:List Ent} {args:List AV} {Q:List Ent->VO->Prop}

theorem qed (h:cFun P f = some (n,ic,rs)):∃ fn c,P.funcs[f]? = some fn∧fn.body = some c∧fn.ntmps = n∧qce P n c = some ic∧cRes P fn.results.toList fn.resultTypes.toList = some rs∧okF P f = true:=by
 unfold cFun at h
 split at h
 ·rename_i fn hf
  split at h
  ·cases h
  ·rename_i hname
   split at h
   ·rename_i c hb
    split at h
    ·rename_i ic' rs' h1 h2
     simp only [Option.some.injEq,Prod.mk.injEq] at h
     obtain ⟨rfl,rfl,rfl⟩:=h
     exact ⟨fn,c,hf,hb,rfl,h1,h2,by simp [okF,hf,hb];simpa using hname⟩
    ·cases h
   ·cases h
 ·cases h

theorem qgr {tm:List (Nat×AV)} {l l':List AD} {H:List Ent}:∀ {rs:List (RV×Co)},qen ⟨tm,l⟩ H rs = qen ⟨tm,l'⟩ H rs
 | []=>rfl
 | (.t t,c) :: r=>by simp only [qen,qgr (rs:=r) (l:=l) (l':=l')]
 | (.c g n a,c) :: r=>by simp only [qen,qgr (rs:=r) (l:=l) (l':=l')]

theorem qr (hc:cFun P f = some (n,ic,rs)) (k:Nat) (hk:H.length≤k) (hl:args.length≤n) (h:VI P none n H.length ic (retq k rs Q) ⟨qbr 0 args,[]⟩ H):VCalls P f H args Q:=by
 obtain ⟨fn,c,hf,hb,hn,hcode,hres,hok⟩:=qed hc
 subst hn
 refine ⟨hok,fun w M G vs hst hv=>callsIn_of_wp_marks hf hb trivial ?_⟩
 have hvl:=qe hv
 have hrel:RelF w M G fn.ntmps ⟨qbr 0 args,[]⟩ { tmps:=vs.toArray ++ Array.replicate (fn.ntmps - vs.toArray.size) undef,defers:=[] }:=by
  refine ⟨by simp;omega,rfl,fun t=>?_⟩
  simp only [qcb,Nat.zero_le,if_true,Nat.sub_zero]
  by_cases ht:t < args.length
  ·obtain ⟨x,hx,hr⟩:=qb4 hv ht
   have:(vs.toArray ++ Array.replicate (fn.ntmps - vs.toArray.size) undef).getD t undef = x:=by
    rw [Array.getD_eq_getD_getElem?,Array.getElem?_append_left (by simp;omega)]
    simp [hx]
   rw [this];exact hr
  ·have:args.getD t .junk = .junk:=by rw [List.getD_eq_getElem?_getD,List.getElem?_eq_none (by omega)];rfl
   rw [this];trivial
 have hwp:=h c hcode w M G _ hst hrel
 have hfw:fw none = Fence.wide:=rfl
 rw [hfw] at hwp
 refine wpIn_mono hwp fun e a' w' hp=>?_
 obtain ⟨ve,af',M',G',H',h1,h2,h3,h4,h5⟩:=hp
 have hlen:G.length = H.length:=hst.len
 -- the marks
 have leave:∀ (l:List AD) (ds:List Deferred) (H₁:List Ent) (G₁:List Gh) (w₁:World) (mode:FrameMode) (K:List Ent->Prop),mode≠.run->DR w₁ M' G₁ l ds->ExtM H.length w M G w₁ M' G₁->St w₁ M' G₁ H₁->(∀ t,VR w₁ M' G₁ (get af'.tm t) (a'.tmps.getD t undef))->dlq l H₁ K →
  (∀ (H₂:List Ent) (G₂:List Gh) (w₂:World),K H₂->ExtM H.length w M G w₂ M' G₂->Ext w₁ M' G₁ w₂ M' G₂->St w₂ M' G₂ H₂->(∀ t,VR w₂ M' G₂ (get af'.tm t) (a'.tmps.getD t undef))->LeavesIn Fence.wide 0 P fn a'.tmps (Out Q w M G) [] mode w₂) →
  LeavesInM Fence.wide 0 P fn a'.tmps (Out Q w M G) ds mode w₁:=by
  intro l
  induction l with
  | nil =>
    intro ds H₁ G₁ w₁ mode K hmo hd he hs hv hq hK
    simp only [DR] at hd;subst hd
    exact hK H₁ G₁ w₁ hq he (Ext.refl _ _ _) hs hv
  | cons d l ih =>
    intro ds H₁ G₁ w₁ mode K hmo hd he hs hv hq hK
    cases d with
    | dfr f args=>exact hq.elim
    | mark i =>
      obtain ⟨g,r,rfl,hg,hd⟩:=hd
      simp only [dlq] at hq
      split at hq
      ·rename_i d as hen
       obtain ⟨G₂,q1,q2,q3⟩:=q08 hs hg (qbd8 hen)
       refine ⟨hmo,.inl ⟨g.cap,_,rfl,run_takeDeferred q1,?_⟩⟩
       exact ih r _ G₂ _ mode K hmo (qjg q3.core q3.le hd) (he.trans q3.toM) q2 (fun t=>(hv t).ext q3) hq fun H₂ G₃ w₂ r1 r2 r3 r4 r5=>hK H₂ G₃ w₂ r1 r2 (q3.trans r3) r4 r5
      ·exact hq.elim
 have done:∀ (hq:dlq af'.dl H' (retk k rs Q af')),LeavesInM Fence.wide 0 P fn a'.tmps (Out Q w M G) a'.defers .returning w':=fun hq=>by
  refine leave af'.dl a'.defers H' G' w' .returning _ (by simp) h5.defers h3 h4 h5.rd hq fun H₂ G₂ w₂ q1 q2 q3 q4 q5=>?_
  obtain ⟨us,x,s1,s2,s3⟩:=qee (n:=fn.ntmps) (af:=⟨af'.tm,[]⟩) (a:={ tmps:=a'.tmps,defers:=[] }) q4 ⟨h5.size,rfl,q5⟩ hres (by rw [qgr (l':=af'.dl)];exact q1)
  obtain ⟨G'',r1,r2,r3,r4⟩:=qep (m:=H.length) q4 s1 hk
  exact ⟨x,s3,M',G'',_,_,r3,(hlen ▸ (q2.trans r1)).toExt,r2,r4 _ _ s1.2.2.1 s2⟩
 cases ve with
 | nrm=>have h2:e = .normal:=h2;subst h2;exact done h1
 | ret=>have h2:e = .ret:=h2;subst h2;exact done h1
 | pan v =>
   obtain ⟨x,rfl,hx⟩:=h2
   refine leave af'.dl a'.defers H' G' w' _ _ (by simp) h5.defers h3 h4 h5.rd h1 fun H₂ G₂ w₂ q1 q2 q3 q4 q5=>?_
   obtain ⟨G'',r1,r2,r3,r4⟩:=qep (m:=H.length) q4 q1 hk
   exact ⟨M',G'',_,_,x,r3,(hlen ▸ (q2.trans r1)).toExt,r2,r4 _ _ q1.2.2.1 (hx.ext q3),rfl⟩
 | ext i=>exact h1.elim
 | gto l=>exact h1.elim

def qk (P:Program) (f:FuncId) (args:List AV) (r:AV):Prop :=
 VCalls P f [] args (fun H' o=>H' = []∧o = .val r)∧AV.bds 0 args = true∧r.bd 0 = true

theorem qn1 (k:Nat) (l r:List AV):AV.bds k (l ++ r) = (AV.bds k l && AV.bds k r):=by
 rw [qb9,qb9,qb9,List.all_append]

theorem qd {r:AV} (hc:cFun P f = some (n,ic,rs)) (hl:args.length≤n) (ha:AV.bds 0 args = true) (hr:r.bd 0 = true) (h:AV.wfs args->VI P none n 0 ic (retq 0 rs fun H' o=>o = .val r) ⟨qbr 0 args,[]⟩ []):qk P f args r:=by
 obtain ⟨_,_,_,_,_,_,_,hok⟩:=qed hc
 exact ⟨qig hok fun hw=>qr hc 0 (Nat.le_refl _) hl ((h hw).mono fun e af H hq=>by
  cases e<;>simp only [retq] at hq ⊢
  ·exact qe6 (fun H=>by simp only [retk,fin,List.take_zero,true_and];exact id) hq
  ·exact qe6 (fun H=>by simp only [retk,fin,List.take_zero,true_and];exact id) hq
  ·exact qe6 (fun H=>by simp only [pank,fin,List.take_zero,true_and];exact id) hq),ha,hr⟩

theorem que {r:AV} (h:qk P f args r) (hq:r.wf->Q H (.val r)):VCalls P f H args Q:=by
 have h1:=h.1.mono' (Q':=fun H' o=>(H' = []∧o = .val r)∧r.wf) fun H' o hw ho=>⟨ho,by have:=ho.2;subst this;exact hw⟩
 have:=qiq (H:=H) [] (Q':=Q) h1 List.nodup_nil (by simp) rfl (by simp) h.2.1 (fun H1 o ho=>by
  obtain ⟨⟨rfl,rfl⟩,hwf⟩:=ho
  simp only [qbi,List.take_nil,List.map_nil,List.drop_nil,List.append_nil,VO.ren]
  rw [ren_same (m:=0) (fun i hi=>by omega) r h.2.2]
  exact hq hwf)
 rwa [ql (m:=0) (fun i hi=>by omega) args h.2.1] at this

theorem q0m {r:AV} {first caps:List AV} (h:qk P f (first ++ args ++ caps) r) (hq:r.wf->Q H (.val r)):VApp P H (.fn f first caps) args Q:=qcu (que h hq)
theorem qa {r:AV} (h:qk P f args r) (hq:r.wf->Q H (.val r)):VApp P H (.fn f [] []) args Q:=q0m (by simpa using h) hq
end

def runE (P:Program) (Q:VE->AF->List Ent->Prop):List GI->AF->List Ent->Prop
 | [],af,H=>Q .nrm af H
 | ⟨none,d,i⟩ :: r,af,H=>doD P af H i fun _ v H'=>runE P Q r (put af d v) H'
 | ⟨some (t,b),d,i⟩ :: r,af,H=>gd (get af.tm t) b (doD P af H i fun _ v H'=>runE P Q r (put af d v) H') (runE P Q r (put af d (.tup [])) H)

def noUs:List (GI×List Nat)->Bool
 | []=>true
 | (_,us) :: r=>us.isEmpty && noUs r

theorem qw2 {P:Program} {af:AF} {H:List Ent} {i:I} {K K':Md->AV->List Ent->Prop} (h:doD P af H i K) (hk:∀ t v H',K t v H'->K' t v H'):doD P af H i K':=by
 cases i with
 | call f l =>
   rcases h with ⟨r,h1,h2⟩ | ⟨r,h1,h2⟩ | ⟨r,k,e,e',h1,h2⟩ | ⟨k,e',ln,h1,h2⟩ | ⟨e',h1,h2⟩
   ·exact .inl ⟨r,h1,hk _ _ _ h2⟩
   ·exact .inr (.inl ⟨r,h1,hk _ _ _ h2⟩)
   ·exact .inr (.inr (.inl ⟨r,k,e,e',h1,hk _ _ _ h2⟩))
   ·exact .inr (.inr (.inr (.inl ⟨k,e',ln,h1,hk _ _ _ h2⟩)))
   ·exact .inr (.inr (.inr (.inr ⟨e',h1,hk _ _ _ h2⟩)))
 | _=>exact qgp (fun p hp=>hk _ _ _ hp) h

theorem qex {P:Program} {Q:VE->AF->List Ent->Prop}:∀ {l:List (GI×List Nat)} {acc:List FP} {af:AF} {H:List Ent},noUs l = true->runE P Q (l.map (·.1)) af H->runD P Q acc l af H
 | [],acc,af,H,_,h=>h
 | (⟨none, d, i⟩, us) :: r, acc, af, H, hn, h => by
   simp only [noUs,Bool.and_eq_true,List.isEmpty_iff] at hn
   obtain ⟨rfl,hn⟩:=hn
   simp only [List.map_cons,runE] at h
   simp only [runD]
   exact qw2 h fun t v H' hk=>⟨trivial,qex hn hk⟩
 | (⟨some (t, b), d, i⟩, us) :: r, acc, af, H, hn, h => by
   simp only [noUs,Bool.and_eq_true,List.isEmpty_iff] at hn
   obtain ⟨rfl,hn⟩:=hn
   simp only [List.map_cons,runE] at h
   simp only [runD]
   unfold gd at h ⊢
   split at h
   ·split at h
    ·rename_i c hc hb
     rw [if_pos hb]
     exact qw2 h fun t v H' hk=>⟨trivial,qex hn hk⟩
    ·rename_i c hc hb
     rw [if_neg hb]
     exact ⟨trivial,qex hn h⟩
   ·exact ⟨trivial,qex hn h⟩
   ·exact h

inductive Kt where
 | L (r:List GI)
 | E (r:List GI)
 | D (acc:List FP) (us:List Nat) (r:List (GI×List Nat))

def yesK (P:Program) (Q:VE->AF->List Ent->Prop) (d:Option Nat) (i:I) (k:Kt) (af:AF) (H:List Ent):Prop :=
 match k with
 | .L r=>runL P Q (⟨none,d,i⟩ :: r) af H
 | .E r=>runE P Q (⟨none,d,i⟩ :: r) af H
 | .D acc us r=>runD P Q acc ((⟨none,d,i⟩,us) :: r) af H
def noK (P:Program) (Q:VE->AF->List Ent->Prop) (d:Option Nat) (i:I) (k:Kt) (af:AF) (H:List Ent):Prop :=
 match k with
 | .L r=>runL P Q r (put af d (.tup [])) H
 | .E r=>runE P Q r (put af d (.tup [])) H
 | .D acc us r=>qem acc us (fpI af H.length .off i)∧runD P Q (acc ++ [fpI af H.length .off i]) r (put af d (.tup [])) H
def gdK (P:Program) (Q:VE->AF->List Ent->Prop) (v:AV) (b:Bool) (d:Option Nat) (i:I) (k:Kt) (af:AF) (H:List Ent):Prop :=
 gd v b (yesK P Q d i k af H) (noK P Q d i k af H)

section
variable {P:Program} {Q:VE->AF->List Ent->Prop} {d:Option Nat} {i:I} {k:Kt} {af:AF} {H:List Ent}
theorem qb25:gdK P Q (.bool true) true d i k af H = yesK P Q d i k af H:=Eq.trans rfl rfl
theorem qb2b:gdK P Q (.bool true) false d i k af H = noK P Q d i k af H:=Eq.trans rfl rfl
theorem qbz3:gdK P Q (.bool false) true d i k af H = noK P Q d i k af H:=Eq.trans rfl rfl
theorem qb4u:gdK P Q (.bool false) false d i k af H = yesK P Q d i k af H:=Eq.trans rfl rfl
theorem qbo8 (b:Bool):gdK P Q (.tup []) b d i k af H = noK P Q d i k af H:=Eq.trans rfl rfl
theorem qb3u (r:List GI):yesK P Q d i (.L r) af H = runL P Q (⟨none,d,i⟩ :: r) af H:=Eq.trans rfl rfl
theorem qb2y (r:List GI):yesK P Q d i (.E r) af H = runE P Q (⟨none,d,i⟩ :: r) af H:=Eq.trans rfl rfl
theorem qb0j (acc:List FP) (us:List Nat) (r:List (GI×List Nat)):yesK P Q d i (.D acc us r) af H = runD P Q acc ((⟨none,d,i⟩,us) :: r) af H:=Eq.trans rfl rfl
theorem qb68 (r:List GI):noK P Q d i (.L r) af H = runL P Q r (put af d (.tup [])) H:=Eq.trans rfl rfl
theorem qb7o (r:List GI):noK P Q d i (.E r) af H = runE P Q r (put af d (.tup [])) H:=Eq.trans rfl rfl
theorem qb7s (acc:List FP) (us:List Nat) (r:List (GI×List Nat)):noK P Q d i (.D acc us r) af H = (qem acc us (fpI af H.length .off i)∧runD P Q (acc ++ [fpI af H.length .off i]) r (put af d (.tup [])) H):=Eq.trans rfl rfl
attribute [go_sem] qb25 qb2b qbz3 qb4u qbo8 qb3u qb2y qb0j qb68 qb7o qb7s
end

section
variable {P:Program} {Q:VE->AF->List Ent->Prop}
def kvE (P:Program) (Q:VE->AF->List Ent->Prop) (d:Option Nat) (r:List GI) (af:AF) (H:List Ent) (v:AV):Prop:=runE P Q r (put af d v) H
def kpE (P:Program) (Q:VE->AF->List Ent->Prop) (d:Option Nat) (r:List GI) (af:AF) (p:AV×List Ent):Prop:=runE P Q r (put af d p.1) p.2
def ksE (P:Program) (Q:VE->AF->List Ent->Prop) (d:Option Nat) (r:List GI) (af:AF) (H:List Ent):Prop:=runE P Q r (put af d (.tup [])) H
def kcE (P:Program) (Q:VE->AF->List Ent->Prop) (d:Option Nat) (r:List GI) (af:AF) (_:Md) (v:AV) (H:List Ent):Prop:=runE P Q r (put af d v) H
theorem qbh5 (d:Option Nat) (r:List GI) (af:AF) (H:List Ent) (v:AV):kvE P Q d r af H v = runE P Q r (put af d v) H:=Eq.trans rfl rfl
theorem qbnv (d:Option Nat) (r:List GI) (af:AF) (v:AV) (H:List Ent):kpE P Q d r af (v,H) = runE P Q r (put af d v) H:=Eq.trans rfl rfl
theorem qbgt (d:Option Nat) (r:List GI) (af:AF) (H:List Ent):ksE P Q d r af H = runE P Q r (put af d (.tup [])) H:=Eq.trans rfl rfl
theorem qbgq (d:Option Nat) (r:List GI) (af:AF) (H:List Ent) (t:Md) (v:AV):kcE P Q d r af t v H = runE P Q r (put af d v) H:=Eq.trans rfl rfl
theorem q9a (af:AF) (H:List Ent):runE P Q [] af H = Q .nrm af H:=Eq.trans rfl rfl
theorem qb6j (d:Option Nat) (i:IV) (r:List GI) (af:AF) (H:List Ent):runE P Q (⟨none,d,.v i⟩ :: r) af H = (evv af H i).bnd (kvE P Q d r af H):=by
 simp only [runE,doD,evi];rw [qbo];rfl
theorem q9d (d:Option Nat) (x:Opd) (r:List GI) (af:AF) (H:List Ent):runE P Q (⟨none,d,.box x⟩ :: r) af H = (boxv H (gt af x)).bnd (kpE P Q d r af):=Eq.trans rfl rfl
theorem qbaw (d:Option Nat) (x:List AV) (r:List GI) (af:AF) (H:List Ent):runE P Q (⟨none,d,.alo x⟩ :: r) af H = runE P Q r (put af d (.ptr H.length 0)) (H ++ [.blk x]):=Eq.trans rfl rfl
theorem qbcy (d:Option Nat) (t e:TypeId) (r:List GI) (af:AF) (H:List Ent):runE P Q (⟨none,d,.bld t e⟩ :: r) af H = runE P Q r (put af d (.ptr H.length 0)) (H ++ [.cus (bldR t e [])]):=Eq.trans rfl rfl
theorem qbgn (d:Option Nat) (n:Nat) (c:Co) (a x:Opd) (r:List GI) (af:AF) (H:List Ent):runE P Q (⟨none,d,.st n c a x⟩ :: r) af H = (stv n c H (gt af x) (gt af a)).bnd (ksE P Q d r af):=by
 simp only [runE,doD,evi];rw [qbo];rfl
theorem q78 (d:Option Nat) (n:Nat) (z:AV) (b:Nat) (l c:Opd) (r:List GI) (af:AF) (H:List Ent):runE P Q (⟨none,d,.mks n z b l c⟩ :: r) af H = (mksv n z b H (gt af l) (gt af c)).bnd (kpE P Q d r af):=Eq.trans rfl rfl
theorem qbbt (d:Option Nat) (n:Nat) (z:AV) (b:Nat) (c:Co) (x y:Opd) (r:List GI) (af:AF) (H:List Ent):runE P Q (⟨none,d,.app n z b c x y⟩ :: r) af H = (appv n b H (gt af x) (gt af y)).bnd (kpE P Q d r af):=Eq.trans rfl rfl
theorem q39 (d:Option Nat) (f:Opd) (l:List (Opd×Co)) (r:List GI) (af:AF) (H:List Ent):runE P Q (⟨none,d,.call f l⟩ :: r) af H = DApp P H (gt af f) (gco H af l) (gco H af (rawO l)) (kcE P Q d r af):=Eq.trans rfl rfl
theorem qb1l (t:Nat) (b:Bool) (d:Option Nat) (i:I) (r:List GI) (af:AF) (H:List Ent):runE P Q (⟨some (t,b),d,i⟩ :: r) af H = gdK P Q (get af.tm t) b d i (.E r) af H:=Eq.trans rfl rfl
attribute [go_sem] qbh5 qbnv qbgt qbgq q9a qb6j q9d qbaw qbcy qbgn q78 qbbt q39 qb1l
end

theorem qbnc {P:Program} {fr:Option Nat} {n m:Nat} {Q:VE->AF->List Ent->Prop} {af:AF} {H:List Ent} {l:List (GI×List Nat)} (hn:noUs l = true) (h:runE P Q (l.map (·.1)) af H):VI P fr n m (.drw l) Q af H:=q4w (qex hn h)

section
variable {P:Program} {Q:VE->AF->List Ent->Prop}
def kv (P:Program) (Q:VE->AF->List Ent->Prop) (d:Option Nat) (r:List GI) (af:AF) (H:List Ent) (v:AV):Prop:=runL P Q r (put af d v) H
def kp (P:Program) (Q:VE->AF->List Ent->Prop) (d:Option Nat) (r:List GI) (af:AF) (p:AV×List Ent):Prop:=runL P Q r (put af d p.1) p.2
def ks (P:Program) (Q:VE->AF->List Ent->Prop) (d:Option Nat) (r:List GI) (af:AF) (H:List Ent):Prop:=runL P Q r (put af d (.tup [])) H
def kc (P:Program) (Q:VE->AF->List Ent->Prop) (d:Option Nat) (r:List GI) (af:AF) (H:List Ent) (o:VO):Prop :=
 match o with
 | .val v=>runL P Q r (put af d v) H
 | .pan v=>Q (.pan v) af H
theorem qbdq (d:Option Nat) (r:List GI) (af:AF) (H:List Ent) (v:AV):kv P Q d r af H v = runL P Q r (put af d v) H:=Eq.trans rfl rfl
theorem qbyp (d:Option Nat) (r:List GI) (af:AF) (v:AV) (H:List Ent):kp P Q d r af (v,H) = runL P Q r (put af d v) H:=Eq.trans rfl rfl
theorem qbyx (d:Option Nat) (r:List GI) (af:AF) (H:List Ent):ks P Q d r af H = runL P Q r (put af d (.tup [])) H:=Eq.trans rfl rfl
theorem qeq (d:Option Nat) (r:List GI) (af:AF) (H:List Ent) (v:AV):kc P Q d r af H (.val v) = runL P Q r (put af d v) H:=Eq.trans rfl rfl
theorem qxe (d:Option Nat) (r:List GI) (af:AF) (H:List Ent) (v:AV):kc P Q d r af H (.pan v) = Q (.pan v) af H:=Eq.trans rfl rfl
theorem qbc6 (af:AF) (H:List Ent):runL P Q [] af H = Q .nrm af H:=Eq.trans rfl rfl
theorem qbdm (d:Option Nat) (i:IV) (r:List GI) (af:AF) (H:List Ent):runL P Q (⟨none,d,.v i⟩ :: r) af H = (evv af H i).bnd (kv P Q d r af H):=by
 simp only [runL,doI,evi];rw [qbo];rfl
theorem q9y (d:Option Nat) (x:Opd) (r:List GI) (af:AF) (H:List Ent):runL P Q (⟨none,d,.box x⟩ :: r) af H = (boxv H (gt af x)).bnd (kp P Q d r af):=Eq.trans rfl rfl
theorem q9m (d:Option Nat) (x:List AV) (r:List GI) (af:AF) (H:List Ent):runL P Q (⟨none,d,.alo x⟩ :: r) af H = runL P Q r (put af d (.ptr H.length 0)) (H ++ [.blk x]):=Eq.trans rfl rfl
theorem qbcx (d:Option Nat) (t e:TypeId) (r:List GI) (af:AF) (H:List Ent):runL P Q (⟨none,d,.bld t e⟩ :: r) af H = runL P Q r (put af d (.ptr H.length 0)) (H ++ [.cus (bldR t e [])]):=Eq.trans rfl rfl
theorem qbga (d:Option Nat) (n:Nat) (c:Co) (a x:Opd) (r:List GI) (af:AF) (H:List Ent):runL P Q (⟨none,d,.st n c a x⟩ :: r) af H = (stv n c H (gt af x) (gt af a)).bnd (ks P Q d r af):=by
 simp only [runL,doI,evi];rw [qbo];rfl
theorem qbbd (d:Option Nat) (n:Nat) (z:AV) (b:Nat) (l c:Opd) (r:List GI) (af:AF) (H:List Ent):runL P Q (⟨none,d,.mks n z b l c⟩ :: r) af H = (mksv n z b H (gt af l) (gt af c)).bnd (kp P Q d r af):=Eq.trans rfl rfl
theorem q8u (d:Option Nat) (n:Nat) (z:AV) (b:Nat) (c:Co) (x y:Opd) (r:List GI) (af:AF) (H:List Ent):runL P Q (⟨none,d,.app n z b c x y⟩ :: r) af H = (appv n b H (gt af x) (gt af y)).bnd (kp P Q d r af):=Eq.trans rfl rfl
theorem q2f (d:Option Nat) (f:Opd) (l:List (Opd×Co)) (r:List GI) (af:AF) (H:List Ent):runL P Q (⟨none,d,.call f l⟩ :: r) af H = VApp P H (gt af f) (gco H af l) (kc P Q d r af):=by
 have:(kc P Q d r af) = (fun H' o=>match o with | .val v=>runL P Q r (put af d v) H' | .pan v=>Q (.pan v) af H'):=by
  funext H' o;cases o<;>rfl
 rw [this];rfl
theorem qbyi (t:Nat) (b:Bool) (d:Option Nat) (i:I) (r:List GI) (af:AF) (H:List Ent):runL P Q (⟨some (t,b),d,i⟩ :: r) af H = gdK P Q (get af.tm t) b d i (.L r) af H:=Eq.trans rfl rfl
end

section
variable {P:Program} {Q:VE->AF->List Ent->Prop}
def dv (P:Program) (Q:VE->AF->List Ent->Prop) (acc:List FP) (us:List Nat) (fp:FP) (d:Option Nat) (r:List (GI×List Nat)) (af:AF) (H:List Ent) (v:AV):Prop:=qem acc us fp∧runD P Q (acc ++ [fp]) r (put af d v) H
def dp (P:Program) (Q:VE->AF->List Ent->Prop) (acc:List FP) (us:List Nat) (fp:FP) (d:Option Nat) (r:List (GI×List Nat)) (af:AF) (p:AV×List Ent):Prop:=qem acc us fp∧runD P Q (acc ++ [fp]) r (put af d p.1) p.2
def ds (P:Program) (Q:VE->AF->List Ent->Prop) (acc:List FP) (us:List Nat) (fp:FP) (d:Option Nat) (r:List (GI×List Nat)) (af:AF) (H:List Ent):Prop:=qem acc us fp∧runD P Q (acc ++ [fp]) r (put af d (.tup [])) H
def dc (P:Program) (Q:VE->AF->List Ent->Prop) (acc:List FP) (us:List Nat) (n:Nat) (rd:List Nat) (d:Option Nat) (r:List (GI×List Nat)) (af:AF) (top:Md) (v:AV) (H:List Ent):Prop:=qem acc us (fpC n rd top)∧runD P Q (acc ++ [fpC n rd top]) r (put af d v) H
variable (acc:List FP) (us:List Nat)
theorem qb04 (fp:FP) (d:Option Nat) (r:List (GI×List Nat)) (af:AF) (H:List Ent) (v:AV):dv P Q acc us fp d r af H v = (qem acc us fp∧runD P Q (acc ++ [fp]) r (put af d v) H):=Eq.trans rfl rfl
theorem qbzy (fp:FP) (d:Option Nat) (r:List (GI×List Nat)) (af:AF) (v:AV) (H:List Ent):dp P Q acc us fp d r af (v,H) = (qem acc us fp∧runD P Q (acc ++ [fp]) r (put af d v) H):=Eq.trans rfl rfl
theorem qb3t (fp:FP) (d:Option Nat) (r:List (GI×List Nat)) (af:AF) (H:List Ent):ds P Q acc us fp d r af H = (qem acc us fp∧runD P Q (acc ++ [fp]) r (put af d (.tup [])) H):=Eq.trans rfl rfl
theorem qb2r (n:Nat) (rd:List Nat) (d:Option Nat) (r:List (GI×List Nat)) (af:AF) (H:List Ent) (top:Md) (v:AV):dc P Q acc us n rd d r af top v H = (qem acc us (fpC n rd top)∧runD P Q (acc ++ [fpC n rd top]) r (put af d v) H):=Eq.trans rfl rfl
theorem qbbe (af:AF) (H:List Ent):runD P Q acc [] af H = Q .nrm af H:=Eq.trans rfl rfl
theorem qbyk (d:Option Nat) (i:IV) (r:List (GI×List Nat)) (af:AF) (H:List Ent):runD P Q acc ((⟨none,d,.v i⟩,us) :: r) af H = (evv af H i).bnd (dv P Q acc us { rd:=fpV af i } d r af H):=by
 simp only [runD,doD,evi];rw [qbo];rfl
theorem q7z (d:Option Nat) (x:Opd) (r:List (GI×List Nat)) (af:AF) (H:List Ent):runD P Q acc ((⟨none,d,.box x⟩,us) :: r) af H = (boxv H (gt af x)).bnd (dp P Q acc us { wr:=[H.length],al:=true } d r af):=Eq.trans rfl rfl
theorem q9n (d:Option Nat) (x:List AV) (r:List (GI×List Nat)) (af:AF) (H:List Ent):runD P Q acc ((⟨none,d,.alo x⟩,us) :: r) af H = (qem acc us { wr:=[H.length],al:=true }∧runD P Q (acc ++ [{ wr:=[H.length],al:=true }]) r (put af d (.ptr H.length 0)) (H ++ [.blk x])):=Eq.trans rfl rfl
theorem q77 (d:Option Nat) (t e:TypeId) (r:List (GI×List Nat)) (af:AF) (H:List Ent):runD P Q acc ((⟨none,d,.bld t e⟩,us) :: r) af H = (qem acc us { wr:=[H.length],al:=true }∧runD P Q (acc ++ [{ wr:=[H.length],al:=true }]) r (put af d (.ptr H.length 0)) (H ++ [.cus (bldR t e [])])):=Eq.trans rfl rfl
theorem qbl4 (d:Option Nat) (n:Nat) (c:Co) (a x:Opd) (r:List (GI×List Nat)) (af:AF) (H:List Ent):runD P Q acc ((⟨none,d,.st n c a x⟩,us) :: r) af H = (stv n c H (gt af x) (gt af a)).bnd (ds P Q acc us { rd:=rdCo c (gt af x),wr:=ptrE (gt af a) } d r af):=by
 simp only [runD,doD,evi];rw [qbo];rfl
theorem q9b (d:Option Nat) (n:Nat) (z:AV) (b:Nat) (l c:Opd) (r:List (GI×List Nat)) (af:AF) (H:List Ent):runD P Q acc ((⟨none,d,.mks n z b l c⟩,us) :: r) af H = (mksv n z b H (gt af l) (gt af c)).bnd (dp P Q acc us { wr:=[H.length],al:=true } d r af):=Eq.trans rfl rfl
theorem q7h (d:Option Nat) (n:Nat) (z:AV) (b:Nat) (c:Co) (x y:Opd) (r:List (GI×List Nat)) (af:AF) (H:List Ent):runD P Q acc ((⟨none,d,.app n z b c x y⟩,us) :: r) af H = (appv n b H (gt af x) (gt af y)).bnd (dp P Q acc us { rd:=rowE (gt af y),wr:=H.length :: rowE (gt af x),al:=true } d r af):=Eq.trans rfl rfl
theorem q3k (d:Option Nat) (f:Opd) (l:List (Opd×Co)) (r:List (GI×List Nat)) (af:AF) (H:List Ent):runD P Q acc ((⟨none,d,.call f l⟩,us) :: r) af H = DApp P H (gt af f) (gco H af l) (gco H af (rawO l)) (dc P Q acc us H.length (rdPs af l) d r af):=Eq.trans rfl rfl
theorem qb2o (t:Nat) (b:Bool) (d:Option Nat) (i:I) (r:List (GI×List Nat)) (af:AF) (H:List Ent):runD P Q acc ((⟨some (t,b),d,i⟩,us) :: r) af H = gdK P Q (get af.tm t) b d i (.D acc us r) af H:=Eq.trans rfl rfl
theorem q4r (fp:FP):qem acc [] fp = True:=rfl
theorem qzb (j:Nat) (fp:FP):qem acc (j :: us) fp = (okFP (acc.getD j {}) fp = true∧qem acc us fp):=rfl

theorem qbjo {f:FuncId} {args:List AV} {H:List Ent} {r:AV} (h:qk P f args r):PApp P H (.fn f [] []) args r:=qa h fun _=>⟨rfl,rfl⟩
theorem qc {f:FuncId} {args:List AV} {H:List Ent} {raws:List AV} {r:AV} {K:Md->AV->List Ent->Prop} (h:qk P f args r) (k:K .off r H):DApp P H (.fn f [] []) args raws K:=.inr (.inl ⟨r,fun H₀=>qbjo h,k⟩)
theorem qbub (n:Nat) (rd:List Nat):fpC n rd .off = { rd }:=rfl
theorem q9q (n:Nat) (rd:List Nat):fpC n rd .here = { rd,top:=true }:=rfl
theorem q8l (n:Nat) (rd:List Nat) (k:Nat) (e e':Ent):fpC n rd (.meth k e e') = { rd:=k :: rd,wr:=[k] }:=rfl
theorem qbcc (n:Nat) (rd:List Nat) (e':Ent) (ln:Nat):fpC n rd (.grow none e' ln) = { rd,wr:=[n],al:=true }:=rfl
theorem qbaj (n:Nat) (rd:List Nat) (p:Nat×Ent) (e':Ent) (ln:Nat):fpC n rd (.grow (some p) e' ln) = { rd:=p.1 :: rd,wr:=[n,p.1],al:=true }:=rfl
theorem qbu4 (n:Nat) (rd:List Nat) (e':Ent):fpC n rd (.lay e') = { rd,wr:=[n],al:=true }:=rfl
attribute [go_sem] qbub q9q q8l qbcc qbaj qbu4 rawO rawI rawL
end

def cor (e:Ent) (i len:Nat):AV :=
 match e with
 | .app n es=>if es.length = len then .sl n es else .row i len
 | _=>.row i len
section
variable (H:List Ent)
theorem ql2 (v:AV):co H .id v = v:=by unfold co;rfl
theorem q7 (n:Nat):co H (.sl n) .nils = .sl n []:=by unfold co;rfl
theorem qs5 (n m:Nat) (es:List AV):co H (.sl n) (.lit m es) = .sl m es:=by unfold co;rfl
theorem qd1 (n m:Nat) (es:List AV):co H (.sl n) (.sl m es) = .sl m es:=by unfold co;rfl
theorem qsx (n i len:Nat):co H (.sl n) (.row i len) = cor (ent H i) i len:=by unfold co cor;rfl
theorem qh9 (l:List Co) (vs:List AV):co H (.agg l) (.agg vs) = .agg (cos H l vs):=by rw [co]
theorem qfh (vs:List AV):cos H [] vs = vs:=by cases vs<;>rw [cos]
theorem qdz (c:Co) (l:List Co) (v:AV) (vs:List AV):cos H (c :: l) (v :: vs) = co H c v :: cos H l vs:=by rw [cos]
theorem q50 (n:Nat) (es:List AV) (i len:Nat):cor (.app n es) i len = if es.length = len then .sl n es else .row i len:=rfl
theorem qba7 (n:Nat) (es:List AV) (i len:Nat):cor (.mrow n es) i len = .row i len:=rfl
end

theorem qb7c (A B:Prop):gd (.bool true) true A B = A:=Eq.trans rfl rfl
theorem qb6y (A B:Prop):gd (.bool true) false A B = B:=Eq.trans rfl rfl
theorem qb6w (A B:Prop):gd (.bool false) true A B = B:=Eq.trans rfl rfl
theorem qb7d (A B:Prop):gd (.bool false) false A B = A:=Eq.trans rfl rfl
theorem qbx9 (b:Bool) (A B:Prop):gd (.tup []) b A B = B:=Eq.trans rfl rfl
theorem qbaa (A B:Prop):cnd (.bool true) A B = A:=by simp [cnd]
theorem q3j (A B:Prop):cnd (.bool false) A B = B:=by simp [cnd]
theorem qbz0 {P:Program} {fr:Option Nat} {n m:Nat} {b:IC} {Q:VE->AF->List Ent->Prop} (af:AF) (H:List Ent):sq P fr n m b Q .nrm af H = VI P fr n m b Q af H:=Eq.trans rfl rfl
theorem qb02 {P:Program} {fr:Option Nat} {n m:Nat} {b:IC} {Q:VE->AF->List Ent->Prop} (i:Nat) (af:AF) (H:List Ent):sq P fr n m b Q (.ext i) af H = Q (.ext i) af H:=Eq.trans rfl rfl
theorem qbx6 {P:Program} {fr:Option Nat} {n m:Nat} {b:IC} {Q:VE->AF->List Ent->Prop} (af:AF) (H:List Ent):sq P fr n m b Q .ret af H = Q .ret af H:=Eq.trans rfl rfl
theorem qmd {P:Program} {fr:Option Nat} {n m:Nat} {b:IC} {Q:VE->AF->List Ent->Prop} (v:AV) (af:AF) (H:List Ent):sq P fr n m b Q (.pan v) af H = Q (.pan v) af H:=Eq.trans rfl rfl
theorem qbja {id:Nat} {Q:VE->AF->List Ent->Prop} (af:AF) (H:List Ent):blq id Q .nrm af H = Q .nrm af H:=Eq.trans rfl rfl
theorem qbs9 {id i:Nat} {Q:VE->AF->List Ent->Prop} (af:AF) (H:List Ent):blq id Q (.ext i) af H = if i = id then Q .nrm af H else Q (.ext i) af H:=Eq.trans rfl rfl
theorem qbq1 {id:Nat} {Q:VE->AF->List Ent->Prop} (af:AF) (H:List Ent):blq id Q .ret af H = Q .ret af H:=Eq.trans rfl rfl
theorem qki {id:Nat} {Q:VE->AF->List Ent->Prop} (v:AV) (af:AF) (H:List Ent):blq id Q (.pan v) af H = Q (.pan v) af H:=Eq.trans rfl rfl
theorem qbze {S:Type} {Inv:S->Prop} {st:S->AF×List Ent} {m:Nat} {Q:VE->AF->List Ent->Prop} (af:AF) (H:List Ent):lq Inv st m Q .nrm af H = At S Inv st m af H:=Eq.trans rfl rfl
theorem qb1z {S:Type} {Inv:S->Prop} {st:S->AF×List Ent} {m i:Nat} {Q:VE->AF->List Ent->Prop} (af:AF) (H:List Ent):lq Inv st m Q (.ext i) af H = Q (.ext i) af H:=Eq.trans rfl rfl
theorem qb33 {S:Type} {Inv:S->Prop} {st:S->AF×List Ent} {m:Nat} {Q:VE->AF->List Ent->Prop} (af:AF) (H:List Ent):lq Inv st m Q .ret af H = Q .ret af H:=Eq.trans rfl rfl
theorem qru {S:Type} {Inv:S->Prop} {st:S->AF×List Ent} {m:Nat} {Q:VE->AF->List Ent->Prop} (v:AV) (af:AF) (H:List Ent):lq Inv st m Q (.pan v) af H = Q (.pan v) af H:=Eq.trans rfl rfl
theorem qbai {k:Nat} {rs:List (RV×Co)} {Q:List Ent->VO->Prop} (af:AF) (H:List Ent):retq k rs Q .ret af H = dlq af.dl H (retk k rs Q af):=Eq.trans rfl rfl
theorem qbch {k:Nat} {rs:List (RV×Co)} {Q:List Ent->VO->Prop} (af:AF) (H:List Ent):retq k rs Q .nrm af H = dlq af.dl H (retk k rs Q af):=Eq.trans rfl rfl
theorem q9v {k:Nat} {rs:List (RV×Co)} {Q:List Ent->VO->Prop} (v:AV) (af:AF) (H:List Ent):retq k rs Q (.pan v) af H = dlq af.dl H (pank k Q v):=Eq.trans rfl rfl
theorem qbvt (H:List Ent) (K:List Ent->Prop):dlq [] H K = K H:=Eq.trans rfl rfl
theorem q79 (i:Nat) (l:List AD) (H:List Ent) (K:List Ent->Prop):dlq (.mark i :: l) H K = (match ent H i with
 | .lp _ _=>dlq l (H.set i .dead) K
 | _=>False):=Eq.trans rfl rfl
theorem qbbo {k:Nat} {rs:List (RV×Co)} {Q:List Ent->VO->Prop} (af:AF) (H:List Ent):retk k rs Q af H = ((qen af H rs).bnd fun l=>fin k Q H (.val (one l))):=Eq.trans rfl rfl
theorem q8b {k:Nat} {Q:List Ent->VO->Prop} (v:AV) (H:List Ent):pank k Q v H = fin k Q H (.pan v):=Eq.trans rfl rfl

theorem qhf (v:AV):rdCo .id v = []:=by unfold rdCo;rfl
theorem qtz (n i len:Nat):rdCo (.sl n) (.row i len) = [i]:=by unfold rdCo;rfl
theorem qcw (n m:Nat) (es:List AV):rdCo (.sl n) (.sl m es) = []:=by unfold rdCo;rfl
theorem qta (n m:Nat) (es:List AV):rdCo (.sl n) (.lit m es) = []:=by unfold rdCo;rfl
theorem qso (n:Nat):rdCo (.sl n) .nils = []:=by unfold rdCo;rfl
theorem qek (l:List Co) (vs:List AV):rdCo (.agg l) (.agg vs) = qkf l vs:=by unfold rdCo;rfl
theorem qdn (vs:List AV):qkf [] vs = []:=by unfold qkf;rfl
theorem qcx (c:Co) (l:List Co) (v:AV) (vs:List AV):qkf (c :: l) (v :: vs) = rdCo c v ++ qkf l vs:=by rw [qkf]
attribute [go_sem] qbvt q79 qbbo q8b q9v
attribute [go_sem] AV.wf AV.wfs VO.wf
attribute [go_sem] qbbe qbyk q7z q9n q77 qbl4 q9b q7h q3k qb2o qb04 qbzy qb3t qb2r q4r qzb fpI fpV qhf qtz qcw qta qso qek qdn qcx rdPs ptrE rowE okFP disj nin
theorem q4y {α:Type} (a:α) (k:α->Prop):(Rs.ret a).bnd k = k a:=Eq.trans rfl rfl
theorem qbhq {α:Type} (p:Prop) (r:Rs α) (k:α->Prop):(Rs.req p r).bnd k = (p∧r.bnd k):=Eq.trans rfl rfl
theorem qbt0 {α:Type} (k:α->Prop):(Rs.bad:Rs α).bnd k = False:=Eq.trans rfl rfl
attribute [go_sem] qbc6 qbdm q9y q9m qbcx qbga qbbd q8u q2f qbyi qbdq qbyp qbyx qeq qxe qb7c qb6y qb6w qb7d qbx9 qbaa q3j qbz0 qb02 qbx6 qmd qbja qbs9 qbq1 qki qbze qb1z qb33 qru qbai qbch ql2 q7 qs5 qd1 qsx qh9 qfh qdz q50 qba7 evv gt get put q4y qbhq qbt0 Rs.map ent gco gts gto ldv ldc lde stv stc fadv iadv aadv idxv idav slsv slp slf slm slvv lenv eqc eqcs fitc qet eqv binI shrI binX binS eqb binv unv mmv extv nckv cviv cvsv cbsv slav qfi qkv tyav qbst spl bldv qbcf mksv ql9 appE qg3 appv boxv AV.ren AV.rens AV.bd AV.bds Ent.ren Ent.bd AD.ren AD.bd tk Eqk.isIface qen one fin VO.bd qbr qgk tmOK dlOK sg sg' qbi
theorem qbcp (b:Bool) (n off:Nat) (cs:List AV):fldv b n off (.agg cs) = ldc b n off cs:=rfl
attribute [go_sem] qbcp
theorem qb09 (n:Nat) (v:AV):un1 n .id v = v:=by unfold un1;split<;>first | rfl | simp_all
theorem qbzt (n k:Nat) (v:AV):un1 n (.sl k) v = v:=by unfold un1;split<;>first | rfl | simp_all
theorem qbqv (n:Nat) (a b:Co) (r:List Co) (v:AV):un1 n (.agg (a :: b :: r)) v = v:=by unfold un1;split<;>first | rfl | simp_all
theorem qbtc (v:AV):un1 1 (.agg [.id]) (.agg [v]) = v:=rfl
attribute [go_sem] qb09 qbzt qbqv qbtc
theorem qbzx (n:Nat) (H:List Ent) (v:AV):sto n .id H v = v:=Eq.trans (show sto n .id H v = co H .id v from rfl) (ql2 H v)
theorem qbqf (n:Nat) (cs:List Co) (H:List Ent) (v:AV):sto n (.agg cs) H v = co H (.agg cs) v:=rfl
theorem qb6i (n m:Nat) (H:List Ent) (v:AV):sto n (.sl m) H v = if n = 1 then qyu m H v else co H (.sl m) v:=rfl
theorem q48 (m i l:Nat) (H:List Ent):qyu m H (.row i l) = .row i l:=rfl
theorem qbav (m n:Nat) (es:List AV) (H:List Ent):qyu m H (.sl n es) = co H (.sl m) (.sl n es):=rfl
theorem q34 (m n:Nat) (es:List AV) (H:List Ent):qyu m H (.lit n es) = co H (.sl m) (.lit n es):=rfl
theorem qzj (m:Nat) (H:List Ent):qyu m H .nils = co H (.sl m) .nils:=rfl
attribute [go_sem] qbzx qbqf qb6i q48 qbav q34 qzj
theorem q1g (cs:List AV):(AV.agg cs).isAgg = true:=rfl
theorem q35 (k:IntKind) (n:Int):(AV.int k n).isAgg = false:=rfl
theorem q5r (l:List UInt8):(AV.str l).isAgg = false:=rfl
theorem qy6 (b:Bool):(AV.bool b).isAgg = false:=rfl
theorem qzm:AV.nilp.isAgg = false:=rfl
theorem qy1:AV.nilf.isAgg = false:=rfl
theorem qyq:AV.nili.isAgg = false:=rfl
theorem qzs:AV.nils.isAgg = false:=rfl
theorem q0b:AV.nilm.isAgg = false:=rfl
theorem qbb6 (n:Nat) (l:List AV):(AV.sl n l).isAgg = false:=rfl
theorem q4c (n:Nat) (l:List AV):(AV.lit n l).isAgg = false:=rfl
theorem q26 (i o:Nat):(AV.ptr i o).isAgg = false:=rfl
theorem q29 (i o:Nat):(AV.row i o).isAgg = false:=rfl
theorem qyc (n:Nat) (l:List AV) (i o:Nat):(AV.eptr n l i o).isAgg = false:=rfl
theorem qz2 (n k i o:Nat):(AV.rptr n k i o).isAgg = false:=rfl
theorem q6m (f:FuncId) (a b:List AV):(AV.fn f a b).isAgg = false:=rfl
theorem q3r (i:Nat):(AV.opq i).isAgg = false:=rfl
theorem quw (t:TypeId) (v:AV):(AV.iface t v).isAgg = false:=rfl
theorem q4o (l:List AV):(AV.tup l).isAgg = false:=rfl
theorem qbbv (cs:List AV):(AV.agg cs).leaf = false:=rfl
theorem qbbh (cs:List AV):(AV.tup cs).leaf = false:=rfl
theorem q6n (k:IntKind) (n:Int):(AV.int k n).leaf = true:=rfl
theorem q95 (l:List UInt8):(AV.str l).leaf = true:=rfl
theorem q0q (b:Bool):(AV.bool b).leaf = true:=rfl
theorem q10:AV.nilp.leaf = true:=rfl
theorem q2w:AV.nilf.leaf = true:=rfl
theorem q2z:AV.nili.leaf = true:=rfl
theorem q3x:AV.nils.leaf = true:=rfl
theorem q33:AV.nilm.leaf = true:=rfl
theorem qboy (n:Nat) (l:List AV):(AV.sl n l).leaf = true:=rfl
theorem q62 (n:Nat) (l:List AV):(AV.lit n l).leaf = true:=rfl
theorem q7w (i o:Nat):(AV.ptr i o).leaf = true:=rfl
theorem q9f (i o:Nat):(AV.row i o).leaf = true:=rfl
theorem q2a (n:Nat) (l:List AV) (i o:Nat):(AV.eptr n l i o).leaf = true:=rfl
theorem q3a (n k i o:Nat):(AV.rptr n k i o).leaf = true:=rfl
theorem qbgy (f:FuncId) (a b:List AV):(AV.fn f a b).leaf = true:=rfl
theorem q61 (i:Nat):(AV.opq i).leaf = true:=rfl
theorem qzy (t:TypeId) (v:AV):(AV.iface t v).leaf = true:=rfl
theorem q4m (cs:List AV):(AV.agg cs).cells = cs:=rfl
theorem q4h (k:IntKind) (n:Int):(AV.int k n).cells = [.int k n]:=rfl
theorem q5e (l:List UInt8):(AV.str l).cells = [.str l]:=rfl
theorem qyw (b:Bool):(AV.bool b).cells = [.bool b]:=rfl
theorem qzp:AV.nilp.cells = [.nilp]:=rfl
theorem qzw:AV.nilf.cells = [.nilf]:=rfl
theorem qzt:AV.nili.cells = [.nili]:=rfl
theorem qyx:AV.nils.cells = [.nils]:=rfl
theorem qyn:AV.nilm.cells = [.nilm]:=rfl
theorem qbb2 (n:Nat) (l:List AV):(AV.sl n l).cells = [.sl n l]:=rfl
theorem q5b (n:Nat) (l:List AV):(AV.lit n l).cells = [.lit n l]:=rfl
theorem q2h (i o:Nat):(AV.ptr i o).cells = [.ptr i o]:=rfl
theorem q0g (i o:Nat):(AV.row i o).cells = [.row i o]:=rfl
theorem qzc (n:Nat) (l:List AV) (i o:Nat):(AV.eptr n l i o).cells = [.eptr n l i o]:=rfl
theorem qyf (n k i o:Nat):(AV.rptr n k i o).cells = [.rptr n k i o]:=rfl
theorem q6l (f:FuncId) (a b:List AV):(AV.fn f a b).cells = [.fn f a b]:=rfl
theorem q0s (i:Nat):(AV.opq i).cells = [.opq i]:=rfl
theorem quv (t:TypeId) (v:AV):(AV.iface t v).cells = [.iface t v]:=rfl
attribute [go_sem] q1g q35 q5r qy6 qzm qy1 qyq qzs q0b qbb6 q4c q26 q29 qyc qz2 q6m q3r quw q4o qbbv qbbh q6n q95 q0q q10 q2w q2z q3x q33 qboy q62 q7w q9f q2a q3a qbgy q61 qzy q4m q4h q5e qyw qzp qzw qzt qyx qyn qbb2 q5b q2h q0g qzc qyf q6l q0s quv
attribute [go_sem] List.length_cons List.length_nil List.nil_append List.cons_append List.append_nil List.getD_cons_zero List.getD_cons_succ List.set_cons_zero List.set_cons_succ List.take_succ_cons List.take_zero List.take_nil List.drop_succ_cons List.drop_zero List.drop_nil List.all_cons List.all_nil Bool.and_true Bool.true_and Bool.false_and Bool.and_false true_and and_true false_and and_false true_or or_true or_false false_or and_self or_self not_true_eq_false not_false_eq_true Bool.false_eq_true if_true if_false List.map_cons List.map_nil Bool.and_eq_true Int.toNat_natCast Int.natCast_nonneg
attribute [go_sem_proc] Nat.reduceEqDiff Nat.reduceAdd Nat.reduceSub Nat.reduceMul Nat.reduceLT Nat.reduceLeDiff reduceCtorEq Int.reduceToNat
end Go.V
