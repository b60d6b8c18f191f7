/- Texts of this proof, joined. -/
import Derived.OrdersIn
import Derived.RangeFuncIn
import Derived.Laws.Cells
import Derived.Laws.World
import Derived.Laws.Sem
import Derived.Laws.NewBlocks
import Derived.Below
import Derived.KernelRfl
import Derived.Laws.AppendOwn
set_option linter.unusedVariables false
set_option linter.unusedSimpArgs false

/-
 The value logic, part a: abstract values (slices by content), ghost entries for memory that may qgs change, and the relation of both to the model's worlds.
-/
namespace Go.V
open Go Go.RowKit

inductive AV where
 | bool (b:Bool)
 | int (k:IntKind) (n:Int)
 | str (l:List UInt8)
 | nilp
 | nilf
 | nili
 | nils
 | nilm
 | agg (cs:List AV)
 | tup (vs:List AV)
 | sl (n:Nat) (es:List AV)
 | lit (n:Nat) (es:List AV)
 | ptr (i off:Nat)
 | row (i len:Nat)
 | eptr (n:Nat) (es:List AV) (k off:Nat)
 | rptr (i n k off:Nat)
 | vw (i off len cap:Nat)
 | fn (f:FuncId) (first caps:List AV)
 | opq (i:Nat)
 | iface (t:TypeId) (v:AV)
 | junk

structure Gh where
 blk:Nat:=0
 cap:Nat:=0
 val:Value:=.nilIface
 fp:Nat->Prop:=fun _=>False

def Gh.core(g:Gh):Nat×Nat×Value:=(g.blk,g.cap,g.val)

def Mem(w:World)(M:Nat->Nat->Prop)(b o:Nat)(vs:List Value):Prop :=
 ∀j v,vs[j]?=some v->w.cell? ⟨b,o+j,none⟩=some v∧M b (o+j)

def SlOK(w:World)(M:Nat->Nat->Prop)(n:Nat)(us:List Value)(a:Option Addr)(cap:Nat):Prop :=
 us.length≤cap∧cap≤maxLen∧(∀u∈us,u.cells.size=n) ∧
 match a with
 | none=>cap=0
 | some ad=>us=[]∨(ad.spot=none∧Mem w M ad.block ad.off (us.flatMap (·.cells.toList)))

mutual
def VR(w:World)(M:Nat->Nat->Prop)(G:List Gh):AV->Value->Prop
 | .bool b,x=>x=.bool b
 | .int k n,x=>x=.int k n∧(Lit.int k n).wf=true
 | .str l,x=>x=.string ⟨l.toArray⟩∧l.length≤maxLen
 | .nilp,x=>x=.pointer none
 | .nilf,x=>x=.nilFunc
 | .nili,x=>x=.nilIface
 | .nils,x=>x=.slice none 0 0
 | .nilm,x=>x=.map none
 | .agg cs,x=>∃vs:List Value,x=.agg vs.toArray∧VRs w M G cs vs
 | .tup cs,x=>∃vs:List Value,x=.tuple vs.toArray∧VRs w M G cs vs
 | .sl n es,x=>∃a cap us,VRs w M G es us∧SlOK w M n us a cap∧x=.slice a us.length cap
 | .lit n es,x=>∃a us,VRs w M G es us∧SlOK w M n us a us.length∧x=.slice a us.length us.length
 | .ptr i off,x=>∃g,G[i]?=some g∧x=.pointer (some ⟨g.blk,off,none⟩)
 | .row i len,x=>∃g,G[i]?=some g∧x=.slice (some ⟨g.blk,0,none⟩) len g.cap
 | .eptr n es k off,x=>∃a cap us,VRs w M G es us∧SlOK w M n us (some a) cap∧k<us.length∧x=.pointer (some ⟨a.block,a.off+(k*n+off),none⟩)
 | .rptr i n k off,x=>∃g,G[i]?=some g∧x=.pointer (some ⟨g.blk,k*n+off,none⟩)
 | .vw i off len cap,x=>∃g,G[i]?=some g∧x=.slice (some ⟨g.blk,off,none⟩) len cap
 | .fn f first caps,x=>∃xs ys:List Value,VRs w M G first xs∧VRs w M G caps ys∧x=.func (.func f) xs.toArray ys.toArray
 | .opq i,x=>∃g,G[i]?=some g∧x=g.val∧g.val.oneCell'=true
 | .iface t v,x=>∃y,VR w M G v y∧x=.iface t y
 | .junk,_=>True
def VRs(w:World)(M:Nat->Nat->Prop)(G:List Gh):List AV->List Value->Prop
 | [],vs=>vs=[]
 | c::cs,vs=>∃v r,vs=v::r∧VR w M G c v∧VRs w M G cs r
end

mutual
def AV.ren(σ:Nat->Nat):AV->AV
 | .agg cs=>.agg (AV.rens σ cs)
 | .tup cs=>.tup (AV.rens σ cs)
 | .sl n es=>.sl n (AV.rens σ es)
 | .lit n es=>.lit n (AV.rens σ es)
 | .ptr i off=>.ptr (σ i) off
 | .row i len=>.row (σ i) len
 | .eptr n es k off=>.eptr n (AV.rens σ es) k off
 | .rptr i n k off=>.rptr (σ i) n k off
 | .vw i off len cap=>.vw (σ i) off len cap
 | .fn f first caps=>.fn f (AV.rens σ first) (AV.rens σ caps)
 | .opq i=>.opq (σ i)
 | .iface t v=>.iface t (AV.ren σ v)
 | .bool b=>.bool b
 | .int k n=>.int k n
 | .str l=>.str l
 | .nilp=>.nilp
 | .nilf=>.nilf
 | .nili=>.nili
 | .nils=>.nils
 | .nilm=>.nilm
 | .junk=>.junk
def AV.rens(σ:Nat->Nat):List AV->List AV
 | []=>[]
 | c::cs=>AV.ren σ c::AV.rens σ cs
end

mutual
def AV.bd(m:Nat):AV->Bool
 | .agg cs=>AV.bds m cs
 | .tup cs=>AV.bds m cs
 | .sl _ es=>AV.bds m es
 | .lit _ es=>AV.bds m es
 | .ptr i _=>decide (i<m)
 | .row i _=>decide (i<m)
 | .eptr _ es _ _=>AV.bds m es
 | .rptr i _ _ _=>decide (i<m)
 | .vw i _ _ _=>decide (i<m)
 | .fn _ first caps=>AV.bds m first&&AV.bds m caps
 | .opq i=>decide (i<m)
 | .iface _ v=>AV.bd m v
 | .bool _ | .int _ _ | .str _ | .nilp | .nilf | .nili | .nils | .nilm | .junk=>true
def AV.bds(m:Nat):List AV->Bool
 | []=>true
 | c::cs=>AV.bd m c&&AV.bds m cs
end

def AV.leaf:AV->Bool
 | .agg _ | .tup _ | .junk=>false
 | _=>true

def AV.cells:AV->List AV
 | .agg cs=>cs
 | v=>[v]

theorem qrw(σ:Nat->Nat)(l:List AV):AV.rens σ l=l.map (AV.ren σ):=by
 induction l with
 | nil=>rfl
 | cons c l ih=>simp[AV.rens,ih]
theorem qb6(m:Nat)(l:List AV):AV.bds m l=l.all (AV.bd m):=by
 induction l with
 | nil=>rfl
 | cons c l ih=>simp[AV.bds,ih]

section
variable {w w':World} {M M':Nat->Nat->Prop} {G G':List Gh}

theorem ql{cs:List AV}{vs:List Value}(h:VRs w M G cs vs):vs.length=cs.length:=by
 induction cs generalizing vs with
 | nil=>simp only[VRs] at h;subst h;rfl
 | cons c cs ih=>simp only[VRs] at h;obtain⟨v,r,rfl,_,h⟩:=h;simp[ih h]

theorem qnq{cs:List AV}{vs:List Value}(h:VRs w M G cs vs){i:Nat}{c:AV}(hc:cs[i]?=some c):∃v,vs[i]?=some v∧VR w M G c v:=by
 induction cs generalizing vs i with
 | nil=>simp at hc
 | cons d cs ih =>
   simp only[VRs] at h
   obtain⟨v,r,rfl,hv,h⟩:=h
   cases i with
   | zero=>simp at hc;subst hc;exact⟨v,by simp,hv⟩
   | succ i=>simp at hc;obtain⟨x,hx,hr⟩:=ih h hc;exact⟨x,by simpa using hx,hr⟩

theorem qbw{cs ds:List AV}{vs us:List Value}(h:VRs w M G cs vs)(h':VRs w M G ds us):VRs w M G (cs++ds) (vs++us):=by
 induction cs generalizing vs with
 | nil=>simp only[VRs] at h;subst h;simpa using h'
 | cons c cs ih =>
   simp only[VRs] at h
   obtain⟨v,r,rfl,hv,h⟩:=h
   simp only[List.cons_append,VRs]
   exact⟨v,r++us,rfl,hv,ih h⟩

theorem qep{cs:List AV}{vs:List Value}(h:VRs w M G cs vs)(n:Nat):VRs w M G (cs.take n) (vs.take n):=by
 induction cs generalizing vs n with
 | nil=>simp only[VRs] at h;subst h;simp[VRs]
 | cons c cs ih =>
   simp only[VRs] at h
   obtain⟨v,r,rfl,hv,h⟩:=h
   cases n with
   | zero=>simp[VRs]
   | succ n=>simp only[List.take_succ_cons,VRs];exact⟨v,r.take n,rfl,hv,ih h n⟩

theorem qfd{cs:List AV}{vs:List Value}(h:VRs w M G cs vs)(n:Nat):VRs w M G (cs.drop n) (vs.drop n):=by
 induction cs generalizing vs n with
 | nil=>simp only[VRs] at h;subst h;simp[VRs]
 | cons c cs ih =>
   cases n with
   | zero=>simpa using h
   | succ n =>
     simp only[VRs] at h
     obtain⟨v,r,rfl,hv,h⟩:=h
     simpa using ih h n

theorem qba5{cs:List AV}{vs:List Value}(h:VRs w M G cs vs){c:AV}{v:Value}(hv:VR w M G c v)(n:Nat):VRs w M G (cs.set n c) (vs.set n v):=by
 induction cs generalizing vs n with
 | nil=>simp only[VRs] at h;subst h;simp[VRs]
 | cons d cs ih =>
   simp only[VRs] at h
   obtain⟨x,r,rfl,hx,h⟩:=h
   cases n with
   | zero=>simp only[List.set_cons_zero,VRs];exact⟨v,r,rfl,hv,h⟩
   | succ n=>simp only[List.set_cons_succ,VRs];exact⟨x,r.set n v,rfl,hx,ih h n⟩

theorem qbe0{b o:Nat}{vs:List Value}(hM:∀b o,M b o->M' b o∧w'.cell? ⟨b,o,none⟩=w.cell? ⟨b,o,none⟩)(h:Mem w M b o vs):Mem w' M' b o vs:=by
 intro j v hj
 obtain⟨h1,h2⟩:=h j v hj
 obtain⟨h3,h4⟩:=hM _ _ h2
 exact⟨h4.trans h1,h3⟩

theorem qno{n cap:Nat}{us:List Value}{a:Option Addr}(hM:∀b o,M b o->M' b o∧w'.cell? ⟨b,o,none⟩=w.cell? ⟨b,o,none⟩)(h:SlOK w M n us a cap):SlOK w' M' n us a cap:=by
 obtain⟨h1,h2,h3,h4⟩:=h
 refine⟨h1,h2,h3,?_⟩
 cases a with
 | none=>exact h4
 | some ad=>exact h4.imp id fun h4=>⟨h4.1,qbe0 hM h4.2⟩

theorem qb7{g g':Gh}(h:g'.core=g.core):g'.blk=g.blk∧g'.cap=g.cap∧g'.val=g.val:=by
 simpa [Gh.core] using h

mutual
theorem qpq{σ:Nat->Nat}{m:Nat}(hG:∀i g,i<m->G[i]?=some g->∃g',G'[σ i]?=some g'∧g'.core=g.core)
 (hM:∀b o,M b o->M' b o∧w'.cell? ⟨b,o,none⟩=w.cell? ⟨b,o,none⟩):∀(v:AV) (x:Value),v.bd m=true->VR w M G v x->VR w' M' G' (v.ren σ) x
 | .bool _,x,_,h=>h
 | .int _ _,x,_,h=>h
 | .str _,x,_,h=>h
 | .nilp,x,_,h=>h
 | .nilf,x,_,h=>h
 | .nili,x,_,h=>h
 | .nils,x,_,h=>h
 | .nilm,x,_,h=>h
 | .junk,x,_,h=>trivial
 | .agg cs, x, hb, h => by
   simp only[VR,AV.ren,AV.bd] at h hb ⊢
   obtain⟨vs,rfl,h⟩:=h
   exact⟨vs,rfl,qc6 hG hM cs vs hb h⟩
 | .tup cs, x, hb, h => by
   simp only[VR,AV.ren,AV.bd] at h hb ⊢
   obtain⟨vs,rfl,h⟩:=h
   exact⟨vs,rfl,qc6 hG hM cs vs hb h⟩
 | .sl n es, x, hb, h => by
   simp only[VR,AV.ren,AV.bd] at h hb ⊢
   obtain⟨a,cap,us,h1,h2,rfl⟩:=h
   exact⟨a,cap,us,qc6 hG hM es us hb h1,qno hM h2,rfl⟩
 | .lit n es, x, hb, h => by
   simp only[VR,AV.ren,AV.bd] at h hb ⊢
   obtain⟨a,us,h1,h2,rfl⟩:=h
   exact⟨a,us,qc6 hG hM es us hb h1,qno hM h2,rfl⟩
 | .ptr i off, x, hb, h => by
   simp only[VR,AV.ren,AV.bd,decide_eq_true_eq] at h hb ⊢
   obtain⟨g,hg,rfl⟩:=h
   obtain⟨g',hg',hc⟩:=hG i g hb hg
   exact⟨g',hg',by rw[(qb7 hc).1]⟩
 | .row i len, x, hb, h => by
   simp only[VR,AV.ren,AV.bd,decide_eq_true_eq] at h hb ⊢
   obtain⟨g,hg,rfl⟩:=h
   obtain⟨g',hg',hc⟩:=hG i g hb hg
   exact⟨g',hg',by rw[(qb7 hc).1,(qb7 hc).2.1]⟩
 | .eptr n es k off, x, hb, h => by
   simp only[VR,AV.ren,AV.bd] at h hb ⊢
   obtain⟨a,cap,us,h1,h2,h3,rfl⟩:=h
   exact⟨a,cap,us,qc6 hG hM es us hb h1,qno hM h2,h3,rfl⟩
 | .rptr i n k off, x, hb, h => by
   simp only[VR,AV.ren,AV.bd,decide_eq_true_eq] at h hb ⊢
   obtain⟨g,hg,rfl⟩:=h
   obtain⟨g',hg',hc⟩:=hG i g hb hg
   exact⟨g',hg',by rw[(qb7 hc).1]⟩
 | .vw i off len cap, x, hb, h => by
   simp only[VR,AV.ren,AV.bd,decide_eq_true_eq] at h hb ⊢
   obtain⟨g,hg,rfl⟩:=h
   obtain⟨g',hg',hc⟩:=hG i g hb hg
   exact⟨g',hg',by rw[(qb7 hc).1]⟩
 | .fn f first caps, x, hb, h => by
   simp only[VR,AV.ren,AV.bd,Bool.and_eq_true] at h hb ⊢
   obtain⟨xs,ys,h1,h2,rfl⟩:=h
   exact⟨xs,ys,qc6 hG hM first xs hb.1 h1,qc6 hG hM caps ys hb.2 h2,rfl⟩
 | .opq i, x, hb, h => by
   simp only[VR,AV.ren,AV.bd,decide_eq_true_eq] at h hb ⊢
   obtain⟨g,hg,rfl,h1⟩:=h
   obtain⟨g',hg',hc⟩:=hG i g hb hg
   exact⟨g',hg',by rw[(qb7 hc).2.2],by rw[(qb7 hc).2.2];exact h1⟩
 | .iface t v, x, hb, h => by
   simp only[VR,AV.ren,AV.bd] at h hb ⊢
   obtain⟨y,h1,rfl⟩:=h
   exact⟨y,qpq hG hM v y hb h1,rfl⟩
theorem qc6{σ:Nat->Nat}{m:Nat}(hG:∀i g,i<m->G[i]?=some g->∃g',G'[σ i]?=some g'∧g'.core=g.core)
 (hM:∀b o,M b o->M' b o∧w'.cell? ⟨b,o,none⟩=w.cell? ⟨b,o,none⟩):∀(vs:List AV) (xs:List Value),AV.bds m vs=true->VRs w M G vs xs->VRs w' M' G' (AV.rens σ vs) xs
 | [],xs,_,h=>by simpa only[VRs,AV.rens] using h
 | c :: cs, xs, hb, h => by
   simp only[VRs,AV.rens,AV.bds,Bool.and_eq_true] at h hb ⊢
   obtain⟨v,r,rfl,h1,h2⟩:=h
   exact⟨v,r,rfl,qpq hG hM c v hb.1 h1,qc6 hG hM cs r hb.2 h2⟩
end

mutual
theorem qbf5:∀(v:AV) (x:Value),VR w M G v x->v.bd G.length=true
 | .bool _,x,h=>rfl
 | .int _ _,x,h=>rfl
 | .str _,x,h=>rfl
 | .nilp,x,h=>rfl
 | .nilf,x,h=>rfl
 | .nili,x,h=>rfl
 | .nils,x,h=>rfl
 | .nilm,x,h=>rfl
 | .junk,x,h=>rfl
 | .agg cs, x, h => by
   simp only[VR,AV.bd] at h ⊢
   obtain⟨vs,rfl,h⟩:=h
   exact qei cs vs h
 | .tup cs, x, h => by
   simp only[VR,AV.bd] at h ⊢
   obtain⟨vs,rfl,h⟩:=h
   exact qei cs vs h
 | .sl n es, x, h => by
   simp only[VR,AV.bd] at h ⊢
   obtain⟨a,cap,us,h1,h2,rfl⟩:=h
   exact qei es us h1
 | .lit n es, x, h => by
   simp only[VR,AV.bd] at h ⊢
   obtain⟨a,us,h1,h2,rfl⟩:=h
   exact qei es us h1
 | .ptr i off, x, h => by
   simp only[VR,AV.bd,decide_eq_true_eq] at h ⊢
   obtain⟨g,hg,rfl⟩:=h
   exact(List.getElem?_eq_some_iff.1 hg).1
 | .row i len, x, h => by
   simp only[VR,AV.bd,decide_eq_true_eq] at h ⊢
   obtain⟨g,hg,rfl⟩:=h
   exact(List.getElem?_eq_some_iff.1 hg).1
 | .eptr n es k off, x, h => by
   simp only[VR,AV.bd] at h ⊢
   obtain⟨a,cap,us,h1,h2,h3,rfl⟩:=h
   exact qei es us h1
 | .rptr i n k off, x, h => by
   simp only[VR,AV.bd,decide_eq_true_eq] at h ⊢
   obtain⟨g,hg,rfl⟩:=h
   exact(List.getElem?_eq_some_iff.1 hg).1
 | .vw i off len cap, x, h => by
   simp only[VR,AV.bd,decide_eq_true_eq] at h ⊢
   obtain⟨g,hg,rfl⟩:=h
   exact(List.getElem?_eq_some_iff.1 hg).1
 | .fn f first caps, x, h => by
   simp only[VR,AV.bd,Bool.and_eq_true] at h ⊢
   obtain⟨xs,ys,h1,h2,rfl⟩:=h
   exact⟨qei first xs h1,qei caps ys h2⟩
 | .opq i, x, h => by
   simp only[VR,AV.bd,decide_eq_true_eq] at h ⊢
   obtain⟨g,hg,rfl,_⟩:=h
   exact(List.getElem?_eq_some_iff.1 hg).1
 | .iface t v, x, h => by
   simp only[VR,AV.bd] at h ⊢
   obtain⟨y,h1,rfl⟩:=h
   exact qbf5 v y h1
theorem qei:∀(vs:List AV) (xs:List Value),VRs w M G vs xs->AV.bds G.length vs=true
 | [],xs,h=>rfl
 | c :: cs, xs, h => by
   simp only[VRs,AV.bds,Bool.and_eq_true] at h ⊢
   obtain⟨v,r,rfl,h1,h2⟩:=h
   exact⟨qbf5 c v h1,qei cs r h2⟩
end
end

mutual
theorem qgg{m m':Nat}(hm:m≤m'):∀(v:AV),v.bd m=true->v.bd m'=true
 | .bool _,h=>rfl
 | .int _ _,h=>rfl
 | .str _,h=>rfl
 | .nilp,h=>rfl
 | .nilf,h=>rfl
 | .nili,h=>rfl
 | .nils,h=>rfl
 | .nilm,h=>rfl
 | .junk,h=>rfl
 | .agg cs,h=>qdc hm cs h
 | .tup cs,h=>qdc hm cs h
 | .sl n es,h=>qdc hm es h
 | .lit n es,h=>qdc hm es h
 | .ptr i off,h=>by simp only[AV.bd,decide_eq_true_eq] at h ⊢;omega
 | .row i len,h=>by simp only[AV.bd,decide_eq_true_eq] at h ⊢;omega
 | .eptr n es k off,h=>qdc hm es h
 | .rptr i n k off,h=>by simp only[AV.bd,decide_eq_true_eq] at h ⊢;omega
 | .vw i off len cap,h=>by simp only[AV.bd,decide_eq_true_eq] at h ⊢;omega
 | .fn f first caps, h => by
   simp only[AV.bd,Bool.and_eq_true] at h ⊢
   exact⟨qdc hm first h.1,qdc hm caps h.2⟩
 | .opq i,h=>by simp only[AV.bd,decide_eq_true_eq] at h ⊢;omega
 | .iface t v,h=>qgg hm v h
theorem qdc{m m':Nat}(hm:m≤m'):∀(vs:List AV),AV.bds m vs=true->AV.bds m' vs=true
 | [],h=>rfl
 | c :: cs, h => by
   simp only[AV.bds,Bool.and_eq_true] at h ⊢
   exact⟨qgg hm c h.1,qdc hm cs h.2⟩
end

mutual
theorem ren_same{σ:Nat->Nat}{m:Nat}(hσ:∀i,i<m->σ i=i):∀(v:AV),v.bd m=true->v.ren σ=v
 | .bool _,h=>rfl
 | .int _ _,h=>rfl
 | .str _,h=>rfl
 | .nilp,h=>rfl
 | .nilf,h=>rfl
 | .nili,h=>rfl
 | .nils,h=>rfl
 | .nilm,h=>rfl
 | .junk,h=>rfl
 | .agg cs,h=>by simp only[AV.ren];rw[qs hσ cs h]
 | .tup cs,h=>by simp only[AV.ren];rw[qs hσ cs h]
 | .sl n es,h=>by simp only[AV.ren];rw[qs hσ es h]
 | .lit n es,h=>by simp only[AV.ren];rw[qs hσ es h]
 | .ptr i off,h=>by simp only[AV.bd,decide_eq_true_eq] at h;simp only[AV.ren];rw[hσ i h]
 | .row i len,h=>by simp only[AV.bd,decide_eq_true_eq] at h;simp only[AV.ren];rw[hσ i h]
 | .eptr n es k off,h=>by simp only[AV.ren];rw[qs hσ es h]
 | .rptr i n k off,h=>by simp only[AV.bd,decide_eq_true_eq] at h;simp only[AV.ren];rw[hσ i h]
 | .vw i off len cap,h=>by simp only[AV.bd,decide_eq_true_eq] at h;simp only[AV.ren];rw[hσ i h]
 | .fn f first caps, h => by
   simp only[AV.bd,Bool.and_eq_true] at h
   simp only[AV.ren];rw[qs hσ first h.1,qs hσ caps h.2]
 | .opq i,h=>by simp only[AV.bd,decide_eq_true_eq] at h;simp only[AV.ren];rw[hσ i h]
 | .iface t v,h=>by simp only[AV.ren];rw[ren_same hσ v h]
theorem qs{σ:Nat->Nat}{m:Nat}(hσ:∀i,i<m->σ i=i):∀(vs:List AV),AV.bds m vs=true->AV.rens σ vs=vs
 | [],h=>rfl
 | c :: cs, h => by
   simp only[AV.bds,Bool.and_eq_true] at h
   simp only[AV.rens];rw[ren_same hσ c h.1,qs hσ cs h.2]
end

theorem qsx{w w':World}{M M':Nat->Nat->Prop}{G G':List Gh}(hG:∀(i:Nat) (g:Gh),G[i]?=some g->∃g':Gh,G'[i]?=some g'∧g'.core=g.core)
 (hM:∀b o,M b o->M' b o∧w'.cell? ⟨b,o,none⟩=w.cell? ⟨b,o,none⟩) {v:AV} {x:Value} (h:VR w M G v x):VR w' M' G' v x:=by
 have hb:=qbf5 v x h
 have:=qpq (σ:=id) (m:=G.length) (fun i g _ hi=>hG i g hi) hM v x hb h
 rwa [ren_same (σ:=id) (fun _ _=>rfl) v hb] at this
theorem qca{w w':World}{M M':Nat->Nat->Prop}{G G':List Gh}(hG:∀(i:Nat) (g:Gh),G[i]?=some g->∃g':Gh,G'[i]?=some g'∧g'.core=g.core)
 (hM:∀b o,M b o->M' b o∧w'.cell? ⟨b,o,none⟩=w.cell? ⟨b,o,none⟩) {v:List AV} {x:List Value} (h:VRs w M G v x):VRs w' M' G' v x:=by
 have hb:=qei v x h
 have:=qc6 (σ:=id) (m:=G.length) (fun i g _ hi=>hG i g hi) hM v x hb h
 rwa [qs (σ:=id) (fun _ _=>rfl) v hb] at this

structure LpD where
 st:LoopState
 jmp:Option Code
 fn:FuncId
 ps:Array Tmp
 asn:Code
 bd:Code

inductive Ent where
 | dead
 | blk (cs:List AV)
 | app (n:Nat) (es:List AV)
 | mrow (n:Nat) (es:List AV)
 | lp (d:LpD) (as:List AV)
 | cus (R:World->(Nat->Nat->Prop)->Gh->Prop)

def own(G:List Gh)(b:Nat):Prop:=∃(i:Nat) (g:Gh),G[i]?=some g∧g.fp b

def Le(w:World)(M:Nat->Nat->Prop)(w':World)(M':Nat->Nat->Prop):Prop :=
 ∀b o,M b o->M' b o∧w'.cell? ⟨b,o,none⟩=w.cell? ⟨b,o,none⟩

structure Agr(fp:Nat->Prop)(w:World)(M:Nat->Nat->Prop)(w':World)(M':Nat->Nat->Prop):Prop where
 same:∀b,fp b->w'.heap[b]?=w.heap[b]?
 le:Le w M w' M'
 fresh:∀b o,fp b->M' b o->M b o
 size:w.heap.size≤w'.heap.size

def Stab(R:World->(Nat->Nat->Prop)->Gh->Prop)(g:Gh):Prop:=∀(w:World) (M:Nat->Nat->Prop) (w':World) (M':Nat->Nat->Prop),Agr g.fp w M w' M'->R w M g->R w' M' g
def qlw(w:World)(M:Nat->Nat->Prop)(G:List Gh)(g:Gh)(n:Nat)(es:List AV):Prop :=
 es.length≤g.cap∧g.cap≤maxLen∧∃(vs:List Value) (t:TypeId) (us:List Value),w.heap[g.blk]?=some (.cells vs.toArray t (0,0))∧vs.length=g.cap*n ∧
  VRs w M G es us∧(∀u∈us,u.cells.size=n)∧vs.take (n*es.length)=us.flatMap (·.cells.toList)

def qib(w:World)(M:Nat->Nat->Prop)(G:List Gh)(g:Gh):Ent->Prop
 | .dead=>∀b,¬g.fp b
 | .blk cs=>(∀b,g.fp b↔b=g.blk)∧(∃(vs:List Value) (t:TypeId),w.heap[g.blk]?=some (.cells vs.toArray t (0,0))∧VRs w M G cs vs)∧∀o,¬M g.blk o
 | .app n es=>(∀b,g.fp b↔b=g.blk)∧qlw w M G g n es∧∀o,M g.blk o↔o<n*es.length
 | .mrow n es=>(∀b,g.fp b↔b=g.blk)∧qlw w M G g n es∧∀o,¬M g.blk o
 | .lp d as => (∀ b, g.fp b ↔ b = g.blk ∨ b = g.cap) ∧
   (∃vs:List Value,w.heap[g.blk]?=some (.loop { state:=d.st,pending:=d.jmp,fn:=d.fn,tmps:=vs.toArray,params:=d.ps,assign:=d.asn,body:=d.bd,defers:=g.cap })∧VRs w M G as vs) ∧
   w.heap[g.cap]?=some (.deferred (some []))∧g.val=.func (.yield g.blk) #[] #[]∧(∀o,¬M g.blk o)∧∀o,¬M g.cap o
 | .cus R=>R w M g∧Stab R g

def bldR(T e:TypeId)(l:List UInt8):World->(Nat->Nat->Prop)->Gh->Prop:=fun w M g =>
 ∃ p v : Value, w.heap[g.blk]? = some (.cells #[p, v] T (0, 0)) ∧ (p = .pointer none ∨ p = .pointer (some ⟨g.blk, 0, none⟩)) ∧ (∀ b, g.fp b ↔ b = g.blk ∨ v.ownBlock = some b) ∧ (∀ b o, g.fp b → ¬ M b o) ∧
   v.ownBlock≠some g.blk∧w.ownsRow 0 e 1 v l.length (l.map fun c=>Value.int .u8 c.toNat)

structure St(w:World)(M:Nat->Nat->Prop)(G:List Gh)(H:List Ent):Prop where
 len:G.length=H.length
 ok:∀(i:Nat) (g:Gh) (e:Ent),G[i]?=some g->H[i]?=some e->qib w M G g e
 dj:∀(i j:Nat) (g g':Gh) (b:Nat),G[i]?=some g->G[j]?=some g'->g.fp b->g'.fp b->i=j
 lt:∀(i:Nat) (g:Gh) (b:Nat),G[i]?=some g->g.fp b->b<w.heap.size
 Mlt:∀b o,M b o->b<w.heap.size
 one:∀b o v,M b o->w.cell? ⟨b,o,none⟩=some v->v.oneCell'=true

structure Ext(w:World)(M:Nat->Nat->Prop)(G:List Gh)(w':World)(M':Nat->Nat->Prop)(G':List Gh):Prop where
 os:w'.os=w.os
 tape:w'.tape=w.tape
 output:w'.output=w.output
 size:w.heap.size≤w'.heap.size
 core:∀(i:Nat) (g:Gh),G[i]?=some g->∃g':Gh,G'[i]?=some g'∧g'.core=g.core
 le:Le w M w' M'
 out:∀b,b<w.heap.size->¬own G b->w'.heap[b]?=w.heap[b]?
 new:∀b,own G' b->own G b∨w.heap.size≤b
 Mnew:∀b o,M' b o->M b o∨own G b∨w.heap.size≤b

section
variable {w w' w'':World} {M M' M'':Nat->Nat->Prop} {G G' G'':List Gh} {H H':List Ent}

theorem Le.refl(w:World)(M:Nat->Nat->Prop):Le w M w M:=fun _ _ h=>⟨h,rfl⟩
theorem Le.trans(h:Le w M w' M')(k:Le w' M' w'' M''):Le w M w'' M'':=fun b o hm=>by
 obtain⟨h1,h2⟩:=h b o hm
 obtain⟨h3,h4⟩:=k b o h1
 exact⟨h3,h4.trans h2⟩

theorem Ext.refl(w:World)(M:Nat->Nat->Prop)(G:List Gh):Ext w M G w M G :=
 ⟨rfl,rfl,rfl,Nat.le_refl _,fun i g h=>⟨g,h,rfl⟩,Le.refl w M,fun _ _ _=>rfl,fun _ h=>.inl h,fun _ _ h=>.inl h⟩

theorem Ext.trans(h:Ext w M G w' M' G')(k:Ext w' M' G' w'' M'' G''):Ext w M G w'' M'' G'' where
 os:=k.os.trans h.os
 tape:=k.tape.trans h.tape
 output:=k.output.trans h.output
 size:=Nat.le_trans h.size k.size
 core:=fun i g hg=>by
  obtain⟨g',hg',hc⟩:=h.core i g hg
  obtain⟨g'',hg'',hc'⟩:=k.core i g' hg'
  exact⟨g'',hg'',hc'.trans hc⟩
 le:=h.le.trans k.le
 out:=fun b hb ho=>by
  have h1:=h.out b hb ho
  have h2:¬own G' b:=fun hc=>by
   rcases h.new b hc with hx | hx
   ·exact ho hx
   ·omega
  exact(k.out b (Nat.lt_of_lt_of_le hb h.size) h2).trans h1
 new:=fun b hb=>by
  rcases k.new b hb with hx | hx
  ·exact h.new b hx
  ·exact .inr (Nat.le_trans h.size hx)
 Mnew:=fun b o hm=>by
  rcases k.Mnew b o hm with hx | hx | hx
  ·exact h.Mnew b o hx
  ·rcases h.new b hx with hy | hy
   ·exact .inr (.inl hy)
   ·exact .inr (.inr hy)
  ·exact .inr (.inr (Nat.le_trans h.size hx))

theorem VR.ext{v:AV}{x:Value}(h:VR w M G v x)(e:Ext w M G w' M' G'):VR w' M' G' v x:=qsx e.core e.le h
theorem VRs.ext{v:List AV}{x:List Value}(h:VRs w M G v x)(e:Ext w M G w' M' G'):VRs w' M' G' v x:=qca e.core e.le h

theorem qtn{g:Gh}{n:Nat}{es:List AV}(hc:∀(i:Nat) (g:Gh),G[i]?=some g->∃g':Gh,G'[i]?=some g'∧g'.core=g.core)
 (hle:Le w M w' M') (hs:w'.heap[g.blk]?=w.heap[g.blk]?) (h:qlw w M G g n es):qlw w' M' G' g n es:=by
 obtain⟨h1,h2,vs,t,us,h3,h4,h5,h6,h7⟩:=h
 exact⟨h1,h2,vs,t,us,hs.trans h3,h4,qca hc hle h5,h6,h7⟩

theorem qfr{g:Gh}{e:Ent}(hc:∀(i:Nat) (g:Gh),G[i]?=some g->∃g':Gh,G'[i]?=some g'∧g'.core=g.core)
 (ha:Agr g.fp w M w' M') (h:qib w M G g e):qib w' M' G' g e:=by
 cases e with
 | dead=>exact h
 | blk cs =>
   obtain⟨h1,⟨vs,t,h2,h3⟩,h4⟩:=h
   have hb:g.fp g.blk:=(h1 _).2 rfl
   exact⟨h1,⟨vs,t,(ha.same _ hb).trans h2,qca hc ha.le h3⟩,fun o hm=>h4 o (ha.fresh _ o hb hm)⟩
 | app n es =>
   obtain⟨h1,h2,h3⟩:=h
   have hb:g.fp g.blk:=(h1 _).2 rfl
   exact⟨h1,qtn hc ha.le (ha.same _ hb) h2,fun o=>⟨fun hm=>(h3 o).1 (ha.fresh _ o hb hm),fun ho=>(ha.le _ _ ((h3 o).2 ho)).1⟩⟩
 | mrow n es =>
   obtain⟨h1,h2,h3⟩:=h
   have hb:g.fp g.blk:=(h1 _).2 rfl
   exact⟨h1,qtn hc ha.le (ha.same _ hb) h2,fun o hm=>h3 o (ha.fresh _ o hb hm)⟩
 | lp d as =>
   obtain⟨h1,⟨vs,h2,h3⟩,h4,h5,h6,h7⟩:=h
   have hb:g.fp g.blk:=(h1 _).2 (.inl rfl)
   have hc':g.fp g.cap:=(h1 _).2 (.inr rfl)
   exact⟨h1,⟨vs,(ha.same _ hb).trans h2,qca hc ha.le h3⟩,(ha.same _ hc').trans h4,h5,fun o hm=>h6 o (ha.fresh _ o hb hm),fun o hm=>h7 o (ha.fresh _ o hc' hm)⟩
 | cus R=>exact⟨h.2 _ _ _ _ ha h.1,h.2⟩

theorem q2j(h:St w M G H)(hlen:G'.length=H'.length)
 (hent:∀(i:Nat) (g:Gh) (e:Ent),G'[i]?=some g->H'[i]?=some e->(G[i]?=some g∧H[i]?=some e∧Agr g.fp w M w' M')∨qib w' M' G' g e)
 (hc:∀(i:Nat) (g:Gh),G[i]?=some g->∃g':Gh,G'[i]?=some g'∧g'.core=g.core)
 (hdj:∀(i j:Nat) (g g':Gh) (b:Nat),G'[i]?=some g->G'[j]?=some g'->g.fp b->g'.fp b->i=j)
 (hlt:∀(i:Nat) (g:Gh) (b:Nat),G'[i]?=some g->g.fp b->b<w'.heap.size) (hM:∀b o,M' b o->b<w'.heap.size)
 (hone:∀b o v,M' b o->w'.cell? ⟨b,o,none⟩=some v->v.oneCell'=true):St w' M' G' H' where
 len:=hlen
 ok:=fun i g e hg he=>by
  rcases hent i g e hg he with ⟨h1,h2,h3⟩ | h3
  ·exact qfr hc h3 (h.ok i g e h1 h2)
  ·exact h3
 dj:=hdj
 lt:=hlt
 Mlt:=hM
 one:=hone

theorem getElem?_snoc {α:Type} (l:List α) (x:α) (i:Nat):(l++[x])[i]?=if i<l.length then l[i]? else if i=l.length then some x else none:=by
 by_cases h:i<l.length
 ·simp[h,List.getElem?_append_left h]
 ·rw[List.getElem?_append_right (by omega)]
  by_cases h2:i=l.length
  ·simp[h2]
  ·have:i-l.length≠0:=by omega
   simp[h,h2]
   omega

theorem qhv(G:List Gh)(g:Gh):∀(i:Nat) (g₀:Gh),G[i]?=some g₀->∃g':Gh,(G++[g])[i]?=some g'∧g'.core=g₀.core:=fun i g₀ h=>by
 have hi:=(List.getElem?_eq_some_iff.1 h).1
 exact⟨g₀,by rw[getElem?_snoc,if_pos hi];exact h,rfl⟩

theorem St.lenH(h:St w M G H){i:Nat}{e:Ent}(he:H[i]?=some e):∃g,G[i]?=some g:=by
 have hi:=(List.getElem?_eq_some_iff.1 he).1
 rw[←h.len] at hi
 exact⟨G[i],List.getElem?_eq_getElem hi⟩

theorem qhg{g:Gh}{e:Ent}(h:St w M G H)(hsz:w.heap.size≤w'.heap.size)(hold:∀b,b<w.heap.size->w'.heap[b]?=w.heap[b]?)(hle:∀b o,M b o->M' b o)
 (hfr:∀b o,M' b o->M b o∨w.heap.size≤b∧∀v,w'.cell? ⟨b,o,none⟩=some v->v.oneCell'=true) (hM:∀b o,M' b o->b<w'.heap.size)
 (hfp:∀b,g.fp b->w.heap.size≤b∧b<w'.heap.size) (he:qib w' M' (G++[g]) g e):St w' M' (G++[g]) (H++[e]):=by
 have hLe:Le w M w' M':=fun b o hm=>⟨hle b o hm,World.cell?_of_block (w:=w) (hold b (h.Mlt b o hm))⟩
 refine q2j h (by simp[h.len]) (fun i g' e' hg' he'=>?_) (qhv G g) (fun i j g₁ g₂ b h1 h2 h3 h4=>?_) (fun i g' b hg' hb=>?_) hM
  (fun b o v hm hv=>by
   rcases hfr b o hm with hx | hx
   ·exact h.one b o v hx ((hLe b o hx).2 ▸ hv)
   ·exact hx.2 v hv)
 ·rw[getElem?_snoc] at hg' he'
  by_cases hi:i<G.length
  ·rw[if_pos hi] at hg'
   rw[if_pos (by rw[←h.len];exact hi)] at he'
   refine .inl ⟨hg',he',fun b hb=>hold b (h.lt i g' b hg' hb),hLe,fun b o hb hm=>?_,hsz⟩
   rcases hfr b o hm with hx | hx
   ·exact hx
   ·have:=h.lt i g' b hg' hb;omega
  ·rw[if_neg hi] at hg'
   rw[if_neg (by rw[←h.len];exact hi)] at he'
   by_cases h2:i=G.length
   ·rw[if_pos h2] at hg'
    rw[if_pos (by rw[←h.len];exact h2)] at he'
    simp only[Option.some.injEq] at hg' he'
    subst hg' he'
    exact .inr he
   ·rw[if_neg h2] at hg';cases hg'
 ·rw[getElem?_snoc] at h1 h2
  by_cases hi:i<G.length<;>by_cases hj:j<G.length
  ·rw[if_pos hi] at h1;rw[if_pos hj] at h2
   exact h.dj i j g₁ g₂ b h1 h2 h3 h4
  ·rw[if_pos hi] at h1;rw[if_neg hj] at h2
   by_cases hj2:j=G.length
   ·rw[if_pos hj2] at h2;simp only[Option.some.injEq] at h2;subst h2
    have:=h.lt i g₁ b h1 h3;have:=(hfp b h4).1;omega
   ·rw[if_neg hj2] at h2;cases h2
  ·rw[if_neg hi] at h1;rw[if_pos hj] at h2
   by_cases hi2:i=G.length
   ·rw[if_pos hi2] at h1;simp only[Option.some.injEq] at h1;subst h1
    have:=h.lt j g₂ b h2 h4;have:=(hfp b h3).1;omega
   ·rw[if_neg hi2] at h1;cases h1
  ·rw[if_neg hi] at h1;rw[if_neg hj] at h2
   by_cases hi2:i=G.length<;>by_cases hj2:j=G.length
   ·omega
   ·rw[if_neg hj2] at h2;cases h2
   ·rw[if_neg hi2] at h1;cases h1
   ·rw[if_neg hi2] at h1;cases h1
 ·rw[getElem?_snoc] at hg'
  by_cases hi:i<G.length
  ·rw[if_pos hi] at hg';have:=h.lt i g' b hg' hb;omega
  ·rw[if_neg hi] at hg'
   by_cases h2:i=G.length
   ·rw[if_pos h2] at hg';simp only[Option.some.injEq] at hg';subst hg';exact(hfp b hb).2
   ·rw[if_neg h2] at hg';cases hg'

theorem qgh{g:Gh}(h:St w M G H)(hos:w'.os=w.os)(htape:w'.tape=w.tape)(hout:w'.output=w.output)(hsz:w.heap.size≤w'.heap.size)
 (hold:∀b,b<w.heap.size->w'.heap[b]?=w.heap[b]?) (hle:∀b o,M b o->M' b o) (hfr:∀b o,M' b o->M b o∨w.heap.size≤b)
 (hfp:∀b,g.fp b->w.heap.size≤b):Ext w M G w' M' (G++[g]) where
 os:=hos
 tape:=htape
 output:=hout
 size:=hsz
 core:=qhv G g
 le:=fun b o hm=>⟨hle b o hm,World.cell?_of_block (w:=w) (hold b (h.Mlt b o hm))⟩
 out:=fun b hb _=>hold b hb
 new:=fun b ⟨i,g',hg',hb⟩=>by
  rw[getElem?_snoc] at hg'
  by_cases hi:i<G.length
  ·rw[if_pos hi] at hg';exact .inl ⟨i,g',hg',hb⟩
  ·rw[if_neg hi] at hg'
   by_cases h2:i=G.length
   ·rw[if_pos h2] at hg';simp only[Option.some.injEq] at hg';subst hg';exact .inr (hfp b hb)
   ·rw[if_neg h2] at hg';cases hg'
 Mnew:=fun b o hm=>by
  rcases hfr b o hm with hx | hx
  ·exact .inl hx
  ·exact .inr (.inr hx)

theorem qik{i:Nat}{g g':Gh}{e:Ent}(h:St w M G H)(hg:G[i]?=some g)(hcore:g'.core=g.core)(hfp:∀b,g'.fp b->g.fp b)(hsz:w.heap.size≤w'.heap.size)
 (hold:∀b,b<w.heap.size->¬g.fp b->w'.heap[b]?=w.heap[b]?) (hle:Le w M w' M') (hfr:∀b o,M' b o->M b o∨(g.fp b∧∀v,w'.cell? ⟨b,o,none⟩=some v->v.oneCell'=true)) (he:qib w' M' (G.set i g') g' e):St w' M' (G.set i g') (H.set i e):=by
 have hi:=(List.getElem?_eq_some_iff.1 hg).1
 have hcc:∀(j:Nat) (g₀:Gh),G[j]?=some g₀->∃g₁:Gh,(G.set i g')[j]?=some g₁∧g₁.core=g₀.core:=fun j g₀ hj=>by
  by_cases hji:i=j
  ·subst hji
   rw[hg] at hj;cases hj
   exact⟨g',by simp[hi],hcore⟩
  ·exact⟨g₀,by rw[List.getElem?_set_ne hji];exact hj,rfl⟩
 have hget:∀(j:Nat) (g₁:Gh),(G.set i g')[j]?=some g₁->(j=i∧g₁=g')∨(j≠i∧G[j]?=some g₁):=fun j g₁ hj=>by
  by_cases hji:i=j
  ·subst hji;simp[hi] at hj;exact .inl ⟨rfl,hj.symm⟩
  ·rw[List.getElem?_set_ne hji] at hj;exact .inr ⟨Ne.symm hji,hj⟩
 refine q2j h (by simp[h.len]) (fun j g₁ e₁ hg₁ he₁=>?_) hcc (fun j k g₁ g₂ b h1 h2 h3 h4=>?_) (fun j g₁ b h1 h2=>?_) (fun b o hm=>?_)
  (fun b o v hm hv=>by
   rcases hfr b o hm with hx | hx
   ·exact h.one b o v hx ((hle b o hx).2 ▸ hv)
   ·exact hx.2 v hv)
 ·rcases hget j g₁ hg₁ with ⟨rfl,rfl⟩ | ⟨hji,hgj⟩
  ·have hlt:j<H.length:=by rw[←h.len];exact hi
   simp[hlt] at he₁
   subst he₁
   exact .inr he
  ·rw[List.getElem?_set_ne (Ne.symm hji)] at he₁
   have hnot:∀b,g₁.fp b->¬g.fp b:=fun b hb hc=>hji (h.dj j i g₁ g b hgj hg hb hc)
   refine .inl ⟨hgj,he₁,fun b hb=>hold b (h.lt j g₁ b hgj hb) (hnot b hb),hle,fun b o hb hm=>?_,hsz⟩
   rcases hfr b o hm with hx | hx
   ·exact hx
   ·exact absurd hx.1 (hnot b hb)
 ·rcases hget j g₁ h1 with ⟨rfl,rfl⟩ | ⟨hji,hgj⟩<;>rcases hget k g₂ h2 with ⟨rfl,rfl⟩ | ⟨hki,hgk⟩
  ·rfl
  ·exact absurd (h.dj _ _ _ _ b hgk hg h4 (hfp b h3)) hki
  ·exact absurd (h.dj _ _ _ _ b hgj hg h3 (hfp b h4)) hji
  ·exact h.dj _ _ _ _ b hgj hgk h3 h4
 ·rcases hget j g₁ h1 with ⟨rfl,rfl⟩ | ⟨hji,hgj⟩
  ·exact Nat.lt_of_lt_of_le (h.lt _ _ b hg (hfp b h2)) hsz
  ·exact Nat.lt_of_lt_of_le (h.lt _ _ b hgj h2) hsz
 ·rcases hfr b o hm with hx | hx
  ·exact Nat.lt_of_lt_of_le (h.Mlt b o hx) hsz
  ·exact Nat.lt_of_lt_of_le (h.lt _ _ b hg hx.1) hsz

theorem qrx{i:Nat}{g g':Gh}(h:St w M G H)(hg:G[i]?=some g)(hcore:g'.core=g.core)(hfp:∀b,g'.fp b->g.fp b)(hos:w'.os=w.os)(htape:w'.tape=w.tape)(hout:w'.output=w.output)
 (hsz:w.heap.size≤w'.heap.size) (hold:∀b,b<w.heap.size->¬g.fp b->w'.heap[b]?=w.heap[b]?) (hle:Le w M w' M') (hfr:∀b o,M' b o->M b o∨(g.fp b)):Ext w M G w' M' (G.set i g') where
 os:=hos
 tape:=htape
 output:=hout
 size:=hsz
 core:=fun j g₀ hj=>by
  have hi:=(List.getElem?_eq_some_iff.1 hg).1
  by_cases hji:i=j
  ·subst hji
   rw[hg] at hj;cases hj
   exact⟨g',by simp[hi],hcore⟩
  ·exact⟨g₀,by rw[List.getElem?_set_ne hji];exact hj,rfl⟩
 le:=hle
 out:=fun b hb hn=>hold b hb (fun hc=>hn ⟨i,g,hg,hc⟩)
 new:=fun b ⟨j,g₁,hj,hb⟩=>by
  have hi:=(List.getElem?_eq_some_iff.1 hg).1
  by_cases hji:i=j
  ·subst hji;simp[hi] at hj;subst hj;exact .inl ⟨i,g,hg,hfp b hb⟩
  ·rw[List.getElem?_set_ne hji] at hj;exact .inl ⟨j,g₁,hj,hb⟩
 Mnew:=fun b o hm=>by
  rcases hfr b o hm with hx | hx
  ·exact .inl hx
  ·exact .inr (.inl ⟨i,g,hg,hx⟩)

theorem q76(h:St w M G H)(hsz:w.heap.size≤w'.heap.size)(hold:∀b,b<w.heap.size->w'.heap[b]?=w.heap[b]?)(hle:∀b o,M b o->M' b o)
 (hfr:∀b o,M' b o->M b o∨(w.heap.size≤b∧b<w'.heap.size∧∀v,w'.cell? ⟨b,o,none⟩=some v->v.oneCell'=true)):St w' M' G H:=by
 have hLe:Le w M w' M':=fun b o hm=>⟨hle b o hm,World.cell?_of_block (w:=w) (hold b (h.Mlt b o hm))⟩
 refine q2j h h.len (fun i g e hg he=>.inl ⟨hg,he,fun b hb=>hold b (h.lt i g b hg hb),hLe,fun b o hb hm=>?_,hsz⟩) (fun i g hg=>⟨g,hg,rfl⟩) h.dj
  (fun i g b hg hb=>Nat.lt_of_lt_of_le (h.lt i g b hg hb) hsz) (fun b o hm=>?_)
  (fun b o v hm hv=>by
   rcases hfr b o hm with hx | hx
   ·exact h.one b o v hx ((hLe b o hx).2 ▸ hv)
   ·exact hx.2.2 v hv)
 ·rcases hfr b o hm with hx | hx
  ·exact hx
  ·have:=h.lt i g b hg hb;omega
 ·rcases hfr b o hm with hx | hx
  ·exact Nat.lt_of_lt_of_le (h.Mlt b o hx) hsz
  ·exact hx.2.1
theorem qzb(h:St w M G H)(hos:w'.os=w.os)(htape:w'.tape=w.tape)(hout:w'.output=w.output)(hsz:w.heap.size≤w'.heap.size)(hold:∀b,b<w.heap.size->w'.heap[b]?=w.heap[b]?)
 (hle:∀b o,M b o->M' b o) (hfr:∀b o,M' b o->M b o∨(w.heap.size≤b∧b<w'.heap.size)):Ext w M G w' M' G where
 os:=hos
 tape:=htape
 output:=hout
 size:=hsz
 core:=fun i g hg=>⟨g,hg,rfl⟩
 le:=fun b o hm=>⟨hle b o hm,World.cell?_of_block (w:=w) (hold b (h.Mlt b o hm))⟩
 out:=fun b hb _=>hold b hb
 new:=fun b hb=>.inl hb
 Mnew:=fun b o hm=>by
  rcases hfr b o hm with hx | hx
  ·exact .inl hx
  ·exact .inr (.inr hx.1)

theorem St.drew(h:St w M G H):St w.drew M G H:=q76 h (Nat.le_refl _) (fun _ _=>rfl) (fun _ _ h=>h) (fun _ _ h=>.inl h)
theorem Ext.drew(h:St w M G H):Ext w M G w.drew M G:=qzb h rfl rfl rfl (Nat.le_refl _) (fun _ _=>rfl) (fun _ _ h=>h) (fun _ _ h=>.inl h)
end
end Go.V

/-
 The value logic, part c: the intermediate code, its evaluation over abstract values, and how it is made out of the model's code.
-/
namespace Go.V
open Go Go.RowKit

inductive Opd where
 | t (n:Nat)
 | c (v:AV)

inductive Co where
 | id
 | sl (n:Nat)
 | agg (l:List Co)

inductive Sk where
 | int (k:IntKind)
 | str
 | bool

inductive Eqk where
 | no
 | bool
 | ptr
 | slice
 | iface
 | func
 | cells (ks:List Sk)

def Eqk.isIface:Eqk->Bool
 | .iface=>true
 | _=>false

inductive IV where
 | mov (x:Opd)
 | pick (c a b:Opd)
 | bld (zs:List AV) (parts:List (Nat×Nat×Opd))
 | bsl (n:Nat) (parts:List (Opd×Co))
 | ld (agg:Bool) (n:Nat) (a:Opd)
 | fad (x:Opd) (off:Nat)
 | fld (agg:Bool) (n off:Nat) (x:Opd)
 | iad (n:Nat) (x i:Opd)
 | aad (n len:Nat) (x i:Opd)
 | idx (x i:Opd)
 | ida (agg:Bool) (n len:Nat) (x i:Opd)
 | sls (x:Opd) (lo hi:Option Opd)
 | sla (len:Nat) (x lo:Opd)
 | slv (n:Nat) (x:Opd) (lo hi mx:Option Opd)
 | mfn (f:FuncId) (first caps:List Opd)
 | len (s:Bool) (x:Opd)
 | bin (op:BinOp) (e:Eqk) (x y:Opd)
 | un (op:UnOp) (x:Opd)
 | mm (big:Bool) (x y:Opd)
 | ext (x:Opd) (i:Nat)
 | nck (x:Opd)
 | cvi (k:IntKind) (x:Opd)
 | cvs (x:Opd)
 | cbs (x:Opd)
 | mki (t:TypeId) (x:Opd) (co:Co)
 | tya (t:TypeId) (z:AV) (x:Opd)

inductive I where
 | v (i:IV)
 | box (x:Opd)
 | alo (zs:List AV)
 | bld (t e:TypeId)
 | st (n:Nat) (co:Co) (a x:Opd)
 | mks (n:Nat) (z:AV) (bytes:Nat) (len cap:Opd)
 | app (n:Nat) (z:AV) (bytes:Nat) (co:Co) (x y:Opd)
 | call (fv:Opd) (args:List (Opd×Co))

structure GI where
 g:Option (Nat×Bool)
 d:Option Nat
 i:I

inductive IC where
 | skip
 | reg (draw:Bool) (l:List GI)
 | drw (l:List (GI×List Nat))
 | dfr (l:List GI) (z:Opd)
 | pan (l:List GI) (z:Opd)
 | seq (a b:IC)
 | cond (c:Opd) (a b:IC)
 | block (id:Nat) (a:IC)
 | loop (a:IC)
 | rng (f:Opd) (ps:List Nat) (a b:IC)
 | exit (id:Nat)
 | scope (a:IC)
 | label (l:Nat)
 | goto (l:Nat)
 | ret

/-! ### Evaluation -/

inductive AD where
 | mark (i:Nat)
 | dfr (f:AV) (args:List AV)

structure AF where
 tm:List (Nat×AV)
 dl:List AD

def get:List (Nat×AV)->Nat->AV
 | [],_=>.junk
 | (k,v)::r,t=>if k=t then v else get r t
def gt(af:AF):Opd->AV
 | .t n=>get af.tm n
 | .c v=>v
def put(af:AF)(d:Option Nat)(v:AV):AF :=
 match d with
 | some k=>⟨(k,v)::af.tm,af.dl⟩
 | none=>af

inductive Rs(α:Type) where
 | ret (a:α)
 | req (p:Prop) (r:Rs α)
 | bad

def Rs.bnd{α:Type}:Rs α->(α->Prop)->Prop
 | .ret a,k=>k a
 | .req p r,k=>p∧r.bnd k
 | .bad,_=>False
def Rs.map{α β:Type}(f:α->β):Rs α->Rs β
 | .ret a=>.ret (f a)
 | .req p r=>.req p (r.map f)
 | .bad=>.bad

def ent:List Ent->Nat->Ent
 | [],_=>.dead
 | e::_,0=>e
 | _::r,i+1=>ent r i

def AV.isAgg:AV->Bool
 | .agg _=>true
 | _=>false

def tk(off n:Nat)(l:List AV):List AV:=(l.drop off).take n

mutual
def co(H:List Ent):Co->AV->AV
 | .sl n,.nils=>.sl n []
 | .sl _,.lit m es=>.sl m es
 | .sl _,.row i len=>(match ent H i with | .app n es=>if es.length=len then .sl n es else .row i len | _=>.row i len)
 | .agg l,.agg vs=>.agg (cos H l vs)
 | _,v=>v
def cos(H:List Ent):List Co->List AV->List AV
 | [],vs=>vs
 | _::_,[]=>[]
 | c::l,v::vs=>co H c v::cos H l vs
end

def ldc(agg:Bool)(n off:Nat)(cs:List AV):Rs AV :=
 match agg with
 | true=>.req (off+n≤cs.length) (.ret (.agg (tk off n cs)))
 | false=>.req (off<cs.length) (.ret (cs.getD off .junk))

def lde(agg:Bool)(n n' off:Nat)(e:AV):Rs AV :=
 match agg with
 | true=>if off=0∧n=n' then .req (e.isAgg=true) (.ret e) else .req (e.isAgg=true∧off+n≤n') (.ret (.agg (tk off n e.cells)))
 | false=>bif e.isAgg then .req (off<n') (.ret (e.cells.getD off .junk)) else .req (off=0∧n'=1∧e.leaf=true) (.ret e)

def ldv(agg:Bool)(n:Nat)(H:List Ent):AV->Rs AV
 | .ptr i off=>(match ent H i with | .blk cs=>ldc agg n off cs | _=>.bad)
 | .eptr n' es k off=>lde agg n n' off (es.getD k .junk)
 | .rptr i n' k off => (match ent H i with
   | .app m es=>.req (m=n'∧k<es.length) (lde agg n n' off (es.getD k .junk))
   | .mrow m es=>.req (m=n'∧k<es.length) (lde agg n n' off (es.getD k .junk))
   | _=>.bad)
 | _=>.bad

def stc(n off:Nat)(v:AV)(cs:List AV):Rs (List AV) :=
 if n=1 then .req (off<cs.length∧v.leaf=true) (.ret (cs.set off v))
 else .req (v.isAgg=true∧v.cells.length=n∧off+n≤cs.length∧v.cells.all AV.leaf=true) (.ret (cs.take off++(v.cells++cs.drop (off+n))))

def q3u(m:Nat)(H:List Ent):AV->AV
 | .row i l=>.row i l
 | v=>co H (.sl m) v
def sto(n:Nat)(c:Co)(H:List Ent)(v:AV):AV :=
 match c with
 | .sl m=>if n=1 then q3u m H v else co H (.sl m) v
 | c=>co H c v
def un1:Nat->Co->AV->AV
 | 1,.agg [.id],.agg [v]=>v
 | _,_,v=>v
def stv(n:Nat)(c:Co)(H:List Ent)(v:AV):AV->Rs (List Ent)
 | .ptr i off=>(match ent H i with | .blk cs=>(stc n off (un1 n c v) cs).map fun cs'=>H.set i (.blk cs') | _=>.bad)
 | .rptr i n' k off => (match ent H i with
   | .mrow m es => if off = 0 ∧ n = n' then .req (m = n' ∧ k < es.length ∧ ((sto n c H v).isAgg = true ∧ (sto n c H v).cells.length = n ∧ (sto n c H v).cells.all AV.leaf = true ∨ n = 1 ∧ (sto n c H v).leaf = true)) (.ret (H.set i (.mrow m (es.set k (sto n c H v)))))
     else .req (m=n'∧k<es.length∧(es.getD k .junk).isAgg=true) ((stc n off (co H c v) (es.getD k .junk).cells).map fun cs'=>H.set i (.mrow m (es.set k (.agg cs'))))
   | _=>.bad)
 | _=>.bad

def fadv(off:Nat):AV->Rs AV
 | .ptr i o=>.ret (.ptr i (o+off))
 | .eptr n es k o=>.ret (.eptr n es k (o+off))
 | .rptr i n k o=>.ret (.rptr i n k (o+off))
 | _=>.bad

def fldv(agg:Bool)(n off:Nat):AV->Rs AV
 | .agg cs=>ldc agg n off cs
 | _=>.bad

def iadv(n:Nat):AV->AV->Rs AV
 | .sl n' es,.int _ z=>.req (n'=n∧0≤z∧z<es.length) (.ret (.eptr n' es z.toNat 0))
 | .lit n' es,.int _ z=>.req (n'=n∧0≤z∧z<es.length) (.ret (.eptr n' es z.toNat 0))
 | .row i len,.int _ z=>.req (0≤z∧z<len) (.ret (.rptr i n z.toNat 0))
 | _,_=>.bad

def aadv(n len:Nat):AV->AV->Rs AV
 | .ptr i off,.int _ z=>.req (0≤z∧z<len) (.ret (.ptr i (off+z.toNat*n)))
 | _,_=>.bad

def slav(len:Nat):AV->AV->Rs AV
 | .ptr i off,.int _ z=>.req (0≤z∧z<len) (.ret (.vw i (off+z.toNat) (len-z.toNat) (len-z.toNat)))
 | _,_=>.bad

def idxv:AV->AV->Rs AV
 | .str l,.int _ z=>.req (0≤z∧z<l.length) (.ret (.int .u8 (l.getD z.toNat 0).toNat))
 | _,_=>.bad

def idav(agg:Bool)(n len:Nat):AV->AV->Rs AV
 | .agg cs,.int _ z=>.req (0≤z∧z<len) (ldc agg n (z.toNat*n) cs)
 | _,_=>.bad

def slsv:AV->Option AV->Option AV->Rs AV
 | .str l,none,none=>.ret (.str l)
 | .str l,some (.int _ a),none=>.req (0≤a∧a≤l.length) (.ret (.str (l.drop a.toNat)))
 | .str l,none,some (.int _ b)=>.req (0≤b∧b≤l.length) (.ret (.str (l.take b.toNat)))
 | .str l,some (.int _ a),some (.int _ b)=>.req (0≤b∧b≤l.length∧0≤a∧a≤b) (.ret (.str ((l.take b.toNat).drop a.toNat)))
 | _,_,_=>.bad

def slp(n:Nat)(es:List AV):Option AV->Option AV->Rs AV
 | none,none=>.ret (.sl n es)
 | some (.int _ a),none=>.req (0≤a∧a≤es.length) (.ret (.sl n (es.drop a.toNat)))
 | none,some (.int _ b)=>.req (0≤b∧b≤es.length) (.ret (.sl n (es.take b.toNat)))
 | some (.int _ a),some (.int _ b)=>.req (0≤b∧b≤es.length∧0≤a∧a≤b) (.ret (.sl n ((es.take b.toNat).drop a.toNat)))
 | _,_=>.bad

def slf(n:Nat)(es:List AV):Option AV->Option AV->Option AV->Rs AV
 | none,some (.int _ b),some (.int _ m)=>.req (0≤b∧b≤es.length∧m=b) (.ret (.lit n (es.take b.toNat)))
 | _,_,_=>.bad

def slm(i len:Nat):Option AV->Option AV->Rs AV
 | none,some (.int _ b)=>.req (0≤b∧b≤len) (.ret (.row i b.toNat))
 | _,_=>.bad

def slvv(n:Nat)(H:List Ent):AV->Option AV->Option AV->Option AV->Rs AV
 | .sl n' es,lo,hi,none=>.req (n'=n) (slp n es lo hi)
 | .lit n' es,lo,hi,none=>.req (n'=n) (slp n es lo hi)
 | .sl n' es,lo,hi,some m=>.req (n'=n) (slf n es lo hi (some m))
 | .lit n' es,lo,hi,some m=>.req (n'=n) (slf n es lo hi (some m))
 | .row i len,lo,hi,none=>(match ent H i with | .app n' es=>.req (n'=n∧es.length=len) (slp n es lo hi) | .mrow n' es=>.req (n'=n∧es.length=len) (slm i len lo hi) | _=>.bad)
 | .row i len,lo,hi,some m=>(match ent H i with | .app n' es=>.req (n'=n∧es.length=len) (slf n es lo hi (some m)) | _=>.bad)
 | .nils,none,some (.int _ b),some (.int _ m)=>.req (b=0∧m=0) (.ret .nils)
 | _,_,_,_=>.bad

def lenv:Bool->AV->Rs AV
 | true,.str l=>.ret (.int .i64 l.length)
 | false,.sl _ es=>.ret (.int .i64 es.length)
 | false,.lit _ es=>.ret (.int .i64 es.length)
 | false,.row _ len=>.req (len≤maxLen) (.ret (.int .i64 len))
 | false,.vw _ _ len _=>.req (len≤maxLen) (.ret (.int .i64 len))
 | false,.nils=>.ret (.int .i64 0)
 | _,_=>.bad

def eqc:AV->AV->Bool
 | .int _ a,.int _ b=>decide (a=b)
 | .str a,.str b=>decide (a=b)
 | .bool a,.bool b=>a == b
 | _,_=>false
def eqcs:List AV->List AV->Bool
 | [],[]=>true
 | a::r,b::s=>eqc a b&&eqcs r s
 | _,_=>false
def fitc:Sk->AV->Bool
 | .int k,.int k' _=>decide (k=k')
 | .str,.str _=>true
 | .bool,.bool _=>true
 | _,_=>false
def qic:List Sk->List AV->Bool
 | [],[]=>true
 | k::r,a::s=>fitc k a&&qic r s
 | _,_=>false

def eqv:Eqk->AV->AV->Rs Bool
 | .bool,.bool a,.bool b=>.ret (a == b)
 | .ptr,.nilp,.nilp=>.ret true
 | .ptr,.ptr _ _,.nilp=>.ret false
 | .ptr,.nilp,.ptr _ _=>.ret false
 | .iface,.nili,.nili=>.ret true
 | .iface,.iface _ _,.nili=>.ret false
 | .func,.nilf,.nilf=>.ret true
 | .func,.fn _ _ _,.nilf=>.ret false
 | .cells ks,.agg cs,.agg ds=>.req (qic ks cs=true∧qic ks ds=true) (.ret (eqcs cs ds))
 | _,_,_=>.bad

def shrI(k:IntKind)(a b:Int):Rs AV:=.req (0≤b∧b<8) (.ret (.int k (a.fdiv (2 ^ b.toNat))))
def binX(op:BinOp)(k:IntKind)(a b:Int):Rs AV :=
 match op with
 | .shr=>shrI k a b
 | _=>.bad
def binI(op:BinOp)(k:IntKind)(a b:Int):Rs AV :=
 match op with
 | .shr=>shrI k a b
 | .add=>.ret (.int k (k.wrap (a+b)))
 | .sub=>.ret (.int k (k.wrap (a-b)))
 | .mul=>.ret (.int k (k.wrap (a*b)))
 | .quo=>.req (b≠0) (.ret (.int k (k.wrap (a.tdiv b))))
 | .rem=>.req (b≠0) (.ret (.int k (a.tmod b)))
 | .eql=>.ret (.bool (decide (a=b)))
 | .neq=>.ret (.bool (!decide (a=b)))
 | .lss=>.ret (.bool (decide (a<b)))
 | .leq=>.ret (.bool (decide (a≤b)))
 | .gtr=>.ret (.bool (decide (b<a)))
 | .geq=>.ret (.bool (decide (b≤a)))
 | _=>.bad

def binS(op:BinOp)(a b:List UInt8):Rs AV :=
 match op with
 | .add=>.req (a.length+b.length≤maxLen) (.ret (.str (a++b)))
 | .eql=>.ret (.bool (decide (a=b)))
 | .neq=>.ret (.bool (!decide (a=b)))
 | .lss=>.ret (.bool (Op.bytesLess a b))
 | .leq=>.ret (.bool (Op.bytesLess a b||decide (a=b)))
 | .gtr=>.ret (.bool (!(Op.bytesLess a b||decide (a=b))))
 | .geq=>.ret (.bool (!Op.bytesLess a b))
 | _=>.bad

def eqb(op:BinOp)(r:Rs Bool):Rs AV :=
 match op with
 | .eql=>r.map AV.bool
 | .neq=>r.map fun b=>AV.bool (!b)
 | _=>.bad

def binv(op:BinOp)(e:Eqk):AV->AV->Rs AV
 | .int k a,.int k' b=>if k=k' then binI op k a b else binX op k a b
 | .str a,.str b=>binS op a b
 | x,y=>eqb op (eqv e x y)

def unv(op:UnOp):AV->Rs AV
 | .bool b=>(match op with | .not=>.ret (.bool (!b)) | _=>.bad)
 | .int k n=>(match op with | .neg=>.ret (.int k (k.wrap (0-n))) | _=>.bad)
 | _=>.bad

def mmv(big:Bool):AV->AV->Rs AV
 | .int k x,.int k' y=>if k=k' then(match big with | true=>.ret (.int k (if y > x then y else x)) | false=>.ret (.int k (if y<x then y else x))) else .bad
 | _,_=>.bad

def extv(i:Nat):AV->Rs AV
 | .tup vs=>.req (i<vs.length) (.ret (vs.getD i .junk))
 | _=>.bad

def nckv:AV->Rs AV
 | .ptr i o=>.ret (.ptr i o)
 | .eptr n es k o=>.ret (.eptr n es k o)
 | .rptr i n k o=>.ret (.rptr i n k o)
 | .fn f a b=>.ret (.fn f a b)
 | _=>.bad

def cviv(k:IntKind):AV->Rs AV
 | .int _ n=>.ret (.int k (k.wrap n))
 | _=>.bad

def qgp:AV->Bool
 | .int .u8 _=>true
 | _=>false
def qm8:AV->UInt8
 | .int _ n=>UInt8.ofNat n.toNat
 | _=>0
def cbsv(H:List Ent):AV->Rs AV
 | .vw i off len _ => (match ent H i with
   | .blk cs=>.req (off+len≤cs.length∧len≤maxLen∧(tk off len cs).all qgp=true) (.ret (.str ((tk off len cs).map qm8)))
   | _=>.bad)
 | .sl 1 es=>.req (es.all qgp=true) (.ret (.str (es.map qm8)))
 | .lit 1 es=>.req (es.all qgp=true) (.ret (.str (es.map qm8)))
 | .nils=>.ret (.str [])
 | _=>.bad
def cvsv:AV->Rs AV
 | .str l=>.ret (.str l)
 | _=>.bad

def tyav(t:TypeId)(z:AV):AV->Rs AV
 | .iface t' v=>if t'=t then .ret (.tup [v,.bool true]) else .ret (.tup [z,.bool false])
 | .nili=>.ret (.tup [z,.bool false])
 | _=>.bad

def qbtn:AV->AV->AV->Rs AV
 | .bool c,a,b=>.ret (if c=true then a else b)
 | _,_,_=>.bad

def spl(off:Nat)(cs zs:List AV):List AV:=zs.take off++(cs++zs.drop (off+cs.length))
def bldv(af:AF):List (Nat×Nat×Opd)->List AV->Rs AV
 | [],zs=>.ret (.agg zs)
 | (off,n,x)::r,zs=>.req ((gt af x).cells.length=n∧off+n≤zs.length∧((gt af x).isAgg=true∨(gt af x).leaf=true)) (bldv af r (spl off (gt af x).cells zs))

def qbc5(n:Nat):List AV->Prop
 | []=>True
 | v::r=>(v.cells.length=n∧((v.isAgg=true∧v.cells.all AV.leaf=true)∨v.leaf=true))∧qbc5 n r

def gco(H:List Ent)(af:AF):List (Opd×Co)->List AV
 | []=>[]
 | (x,c)::r=>co H c (gt af x)::gco H af r
def gts(af:AF):List Opd->List AV
 | []=>[]
 | x::r=>gt af x::gts af r
def gto(af:AF):Option Opd->Option AV
 | none=>none
 | some x=>some (gt af x)

def evv(af:AF)(H:List Ent):IV->Rs AV
 | .mov x=>.ret (gt af x)
 | .pick c a b=>qbtn (gt af c) (gt af a) (gt af b)
 | .bld zs parts=>bldv af parts zs
 | .bsl n parts=>.req (qbc5 n (gco H af parts)) (.ret (.lit n (gco H af parts)))
 | .ld agg n a=>ldv agg n H (gt af a)
 | .fad x off=>fadv off (gt af x)
 | .fld agg n off x=>fldv agg n off (gt af x)
 | .iad n x i=>iadv n (gt af x) (gt af i)
 | .aad n len x i=>aadv n len (gt af x) (gt af i)
 | .idx x i=>idxv (gt af x) (gt af i)
 | .ida agg n len x i=>idav agg n len (gt af x) (gt af i)
 | .sls x lo hi=>slsv (gt af x) (gto af lo) (gto af hi)
 | .sla len x lo=>slav len (gt af x) (gt af lo)
 | .slv n x lo hi mx=>slvv n H (gt af x) (gto af lo) (gto af hi) (gto af mx)
 | .mfn f first caps=>.ret (.fn f (gts af first) (gts af caps))
 | .len s x=>lenv s (gt af x)
 | .bin op e x y=>binv op e (gt af x) (gt af y)
 | .un op x=>unv op (gt af x)
 | .mm big x y=>mmv big (gt af x) (gt af y)
 | .ext x i=>extv i (gt af x)
 | .nck x=>nckv (gt af x)
 | .cvi k x=>cviv k (gt af x)
 | .cvs x=>cvsv (gt af x)
 | .cbs x=>cbsv H (co H (.sl 1) (gt af x))
 | .mki t x c=>.ret (.iface t (co H c (gt af x)))
 | .tya t z x=>tyav t z (gt af x)

def mksv(n:Nat)(z:AV)(bytes:Nat)(H:List Ent):AV->AV->Rs (AV×List Ent)
 | .int _ l,.int _ c=>.req (0≤l∧l=c∧bytes*c≤281474976710656∧c≤maxLen) (.ret (.row H.length l.toNat,H++[.mrow n (List.replicate l.toNat z)]))
 | _,_=>.bad

def qna(n:Nat)(H:List Ent):AV->Rs (List AV)
 | .sl n' es=>.req (n'=n) (.ret es)
 | .lit n' es=>.req (n'=n) (.ret es)
 | .nils=>.ret []
 | .row i len=>(match ent H i with | .app n' es=>.req (n'=n∧es.length=len) (.ret es) | _=>.bad)
 | _=>.bad

def qbe(n bytes:Nat):Prop:=(n+n+768)*bytes≤281474976710656

def appE(n b:Nat)(ys:List AV):Ent:=if n=6 then .mrow n ys else if b=88 then .mrow n ys else .app n ys

def qia(n bytes:Nat)(H:List Ent)(ys:List AV):AV->Rs (AV×List Ent)
 | .nils=>if ys.length=0 then .ret (.nils,H) else .req (qbe ys.length bytes) (.ret (.row H.length ys.length,H++[appE n bytes ys]))
 | .lit n' es=>if ys.length=0 then .req (n'=n) (.ret (.lit n es,H)) else .req (n'=n∧qbe (es.length+ys.length) bytes) (.ret (.row H.length (es.length+ys.length),H++[.app n (es++ys)]))
 | .row i len => (match ent H i with
   | .app n' es=>.req (n'=n∧es.length=len∧qbe (len+ys.length) bytes) (.ret (.row H.length (len+ys.length),H.set i .dead++[.app n (es++ys)]))
   | .mrow n' es=>.req (n'=n∧es.length=len∧qbe (len+ys.length) bytes) (.ret (.row H.length (len+ys.length),H.set i .dead++[.mrow n (es++ys)]))
   | _=>.bad)
 | _=>.bad

def appv(n bytes:Nat)(H:List Ent)(x y:AV):Rs (AV×List Ent) :=
 match qna n H y with
 | .ret ys=>qia n bytes H ys x
 | .req p (.ret ys)=>.req p (qia n bytes H ys x)
 | _=>.bad

def boxv(H:List Ent)(x:AV):Rs (AV×List Ent) :=
 .req ((x.isAgg=true∧x.cells.all AV.leaf=true)∨x.leaf=true) (.ret (.ptr H.length 0,H++[.blk x.cells]))

def evi(af:AF)(H:List Ent):I->Rs (AV×List Ent)
 | .v i=>(evv af H i).map fun v=>(v,H)
 | .box x=>boxv H (gt af x)
 | .alo zs=>.ret (.ptr H.length 0,H++[.blk zs])
 | .bld t e=>.ret (.ptr H.length 0,H++[.cus (bldR t e [])])
 | .st n c a x=>(stv n c H (gt af x) (gt af a)).map fun H'=>(.tup [],H')
 | .mks n z bytes len cap=>mksv n z bytes H (gt af len) (gt af cap)
 | .app n _ bytes _ x y=>appv n bytes H (gt af x) (gt af y)
 | .call _ _=>.bad

/-! ### Out of the model's code -/

def ofV:Value->Option AV
 | .bool b=>some (.bool b)
 | .int k n=>if(Lit.int k n).wf then some (.int k n) else none
 | .string s=>if s.data.toList.length≤4294967296 then some (.str s.data.toList) else none
 | .pointer none=>some .nilp
 | .slice none 0 0=>some .nils
 | .map none=>some .nilm
 | .func (.func f) first caps=>if first.size=0∧caps.size=0 then some (.fn f [] []) else none
 | .nilFunc=>some .nilf
 | .nilIface=>some .nili
 | _=>none
def ofVs:List Value->Option (List AV)
 | []=>some []
 | v :: r => match ofV v, ofVs r with
   | some a,some l=>some (a::l)
   | _,_=>none
def ofW:Value->Option AV
 | .agg cs=>(ofVs cs.toList).map AV.agg
 | v=>ofV v

def cO:Operand->Option Opd
 | .tmp t=>some (.t t)
 | .const v=>(ofW v).map Opd.c
 | .func f=>some (.c (.fn f [] []))
 | .global _=>none
def cOs:List Operand->Option (List Opd)
 | []=>some []
 | x :: r => match cO x, cOs r with
   | some a,some l=>some (a::l)
   | _,_=>none
def cOo:Option Operand->Option (Option Opd)
 | none=>some none
 | some x=>(cO x).map some

def aggT(P:Program)(t:TypeId):Option Bool :=
 match P.underlying t with
 | some (.struct _)=>some true
 | some (.array _ _)=>some true
 | some _=>some false
 | none=>none
def qcb(P:Program)(t:TypeId):Option Nat:=(P.info? t).map (·.size)
def qig(P:Program)(t:TypeId):Option Nat:=(P.info? t).map (·.bytes)
def qgt(P:Program)(t:TypeId):Option AV :=
 match (P.info? t).bind (·.zero) with
 | some z=>ofW z
 | none=>none
def qgv(P:Program)(t:TypeId):Option TypeId :=
 match P.underlying t with
 | some (.slice e)=>some e
 | _=>none

def qv6(P:Program):Nat->TypeId->List Co
 | 0,_=>[]
 | d + 1, t =>
   match P.underlying t with
   | some (.slice e)=>[.sl (P.cellsOf e)]
   | some (.struct fs)=>fs.toList.flatMap fun f=>qv6 P d f.type
   | some (.array n e)=>(List.range n).flatMap fun _=>qv6 P d e
   | _=>[.id]
def Co.plain:Co->Bool
 | .id=>true
 | _=>false
def coT(P:Program)(t:TypeId):Co :=
 match P.underlying t with
 | some (.slice e)=>.sl (P.cellsOf e)
 | some (.struct _) | some (.array _ _)=>let l:=qv6 P 6 t;if l.all Co.plain then .id else .agg l
 | _=>.id
def qla(P:Program):List Operand->List TypeId->Option (List (Opd×Co))
 | [],_=>some []
 | x :: r, ts => match cO x, qla P r ts.tail with
   | some a,some l=>some ((a,match ts.head? with | some t=>coT P t | none=>.id)::l)
   | _,_=>none

def skT(P:Program)(t:TypeId):Option Sk :=
 match P.underlying t with
 | some (.int k)=>some (.int k)
 | some .string=>some .str
 | some .bool=>some .bool
 | _=>none
def rowT(P:Program):List Field->Nat->Option (List Sk)
 | [],_=>some []
 | f :: r, i => if f.name != "_" && f.offset == i then (match skT P f.type, rowT P r (i + 1) with | some k, some l => some (k :: l) | _, _ => none) else none
def eqT(P:Program)(t:TypeId):Eqk :=
 match P.underlying t with
 | some .bool=>.bool
 | some (.pointer _)=>.ptr
 | some (.slice _)=>.slice
 | some (.interface _)=>.iface
 | some (.func _ _ _)=>.func
 | some (.struct fs)=>if !P.stoodInHeld t&&!P.eqGuardType P.depth t then(match rowT P fs.toList 0 with | some ks=>.cells ks | none=>.no) else .no
 | some (.array n e)=>if !P.eqGuardType P.depth t&&decide (P.cellsOf e=1) then(match skT P e with | some k=>.cells (List.replicate n k) | none=>.no) else .no
 | _=>.no

def qp4(P:Program)(places:Nat->Option (Nat×Nat)):List (Nat×Operand)->Option (List (Nat×Nat×Opd))
 | []=>some []
 | (i, x) :: r => match places i, cO x, qp4 P places r with
   | some (off,n),some a,some l=>some ((off,n,a)::l)
   | _,_,_=>none
def cRow(P:Program)(c:Co):List (Nat×Operand)->Nat->Option (List (Opd×Co))
 | [],_=>some []
 | (i,x)::r,k=>if i=k then(match cO x,cRow P c r (k+1) with | some a,some l=>some ((a,c)::l) | _,_=>none) else none

def qk1(P:Program)(t:TypeId):Nat->Option (Nat×Nat) :=
 match P.underlying t with
 | some (.struct fs) => fun i => match fs[i]? with
   | some f=>(qcb P f.type).map fun n=>(f.offset,n)
   | none=>none
 | some (.array _ e)=>fun i=>(qcb P e).map fun n=>(i*n,n)
 | _=>fun _=>none

def qv7(P:Program)(t:TypeId):Bool :=
 match P.underlying t with
 | some (.struct fs)=>fs.toList.all fun f=>(qcb P f.type).isSome
 | some (.array _ e)=>(qcb P e).isSome
 | _=>false

def zeroCells(P:Program)(t:TypeId):Option (List AV):=(qgt P t).map AV.cells

inductive MOp where
 | make (t:TypeId)
 | look (t:TypeId) (ok:Bool)
 | upd (t:TypeId)
 | del (t:TypeId)
def mkV:MOp->AV
 | .make t=>.eptr t [] 0 0
 | .look t false=>.eptr t [] 1 0
 | .look t true=>.eptr t [] 2 0
 | .upd t=>.eptr t [] 3 0
 | .del t=>.eptr t [] 4 0
def mkOf:AV->Option MOp
 | .eptr t [] 0 0=>some (.make t)
 | .eptr t [] 1 0=>some (.look t false)
 | .eptr t [] 2 0=>some (.look t true)
 | .eptr t [] 3 0=>some (.upd t)
 | .eptr t [] 4 0=>some (.del t)
 | _=>none
def MOp.sem:MOp->Array Value->Sem Value
 | .make t,_=>Instr.makeMap t none
 | .look t ok,as=>Instr.lookup t (as.getD 0 undef) (as.getD 1 undef) ok
 | .upd t,as=>do Instr.mapUpdate t (as.getD 0 undef) (as.getD 1 undef) (as.getD 2 undef);pure undef
 | .del t,as=>Builtin.delete_ #[t] t as
theorem qmi(m:MOp):mkOf (mkV m)=some m:=by
 cases m with
 | look t ok=>cases ok<;>rfl
 | _=>rfl
theorem qza(σ:Nat->Nat)(v:AV):mkOf (v.ren σ)=mkOf v:=by
 cases v with
 | eptr n es k off=>cases es<;>rfl
 | _=>rfl

def qbgv(P:Program)(c:Call)(type:TypeId):Option I :=
 match c.callee with
 | .value f => match cO f, qla P c.args.toList c.argTypes.toList with
   | some a,some l=>some (.call a l)
   | _,_=>none
 | .invoke _ _=>none
 | .builtin b =>
   match b,c.args.toList,c.argTypes.toList with
   | .len, [x], [t] =>
     match P.underlying t,cO x with
     | some .string,some a=>some (.v (.len true a))
     | some (.slice _),some a=>some (.v (.len false a))
     | _,_=>none
   | .max, [x, y], _ => match cO x, cO y with
     | some a,some b=>some (.v (.mm true a b))
     | _,_=>none
   | .min, [x, y], _ => match cO x, cO y with
     | some a,some b=>some (.v (.mm false a b))
     | _,_=>none
   | .append, [x, y], [t, t'] =>
     match qgv P t,qgv P t',cO x,cO y with
     | some e, some e', some a, some b =>
       match qcb P e,qig P e,qgt P e with
       | some n,some bytes,some z=>if e=e'∧z.cells.length=n∧0<n∧z.cells.all AV.leaf∧0<bytes then some (.app n z bytes (coT P t) a b) else none
       | _,_,_=>none
     | _,_,_,_=>none
   | .delete,[x,y],t::_=>(qla P [x,y] []).map fun l=>.call (.c (mkV (.del t))) l
   | _,_,_=>none

def bldT(P:Program)(t:TypeId):Option TypeId :=
 match P.underlying t with
 | some (.struct fs) => match fs.toList with
   | [f, g] => match P.underlying f.type, P.underlying g.type, (P.info? t).bind (·.zero) with
     | some (.pointer t'),some (.slice e),some (.agg cs)=>if t'=t then(match cs.toList with | [.pointer none,.slice none 0 0]=>some e | _=>none) else none
     | _,_,_=>none
   | _=>none
 | _=>none

def coS(P:Program)(t:TypeId)(n:Nat):Co :=
 if n=1 then(match qgt P t with | some (.agg [_])=>.agg [.id] | _=>coT P t) else coT P t
def cI(P:Program)(o:Oper):Option I :=
 match o.op with
 | .move x | .assign x=>(cO x).map fun a=>.v (.mov a)
 | .pick c a b => match cO c, cO a, cO b with
   | some c,some a,some b=>some (.v (.pick c a b))
   | _,_,_=>none
 | .alloc t => match bldT P t with
   | some e=>some (.bld t e)
   | none => match qgt P t with
     | some z=>some (.alo z.cells)
     | none=>none
 | .box _ x=>(cO x).map I.box
 | .build t parts => match qgt P t, qp4 P (qk1 P t) parts.toList with
   | some (.agg zs),some l=>if qv7 P t then some (.v (.bld zs l)) else none
   | _,_=>none
 | .buildSlice t len parts => match qgv P t with
   | some e => match qcb P e, cRow P (coT P e) parts.toList 0 with
     | some n,some l=>if l.length=len∧len*n≤16777216∧(len*n=0∨((P.info? e).bind (·.zero)).isSome)∧0<n then some (.v (.bsl n l)) else none
     | _,_=>none
   | none=>none
 | .load t a => match aggT P t, qcb P t, cO a with
   | some g,some n,some a=>some (.v (.ld g n a))
   | _,_,_=>none
 | .store t a x => match qcb P t, cO a, cO x with
   | some n,some a,some x=>if 0<n then some (.st n (coS P t n) a x) else none
   | _,_,_=>none
 | .nilCheck x=>(cO x).map fun a=>.v (.nck a)
 | .binOp op t x y _ => match cO x, cO y with
   | some a,some b=>if(eqT P t).isIface&&!(Region.isConst x||Region.isConst y) then none else some (.v (.bin op (eqT P t) a b))
   | _,_=>none
 | .unOp op _ x=>(cO x).map fun a=>.v (.un op a)
 | .convert s d x => match P.underlying s, P.underlying d, cO x with
   | some (.int _),some (.int k),some a=>some (.v (.cvi k a))
   | some .string,some .string,some a=>some (.v (.cvs a))
   | some (.slice e),some .string,some a=>(match P.underlying e with | some (.int .u8)=>some (.v (.cbs a)) | _=>none)
   | _,_,_=>none
 | .makeInterface t x => match P.underlying t, cO x with
   | some (.interface _),_=>none
   | some _,some a=>some (.v (.mki t a (coT P t)))
   | _,_=>none
 | .makeFunc (.func f) first caps => match cOs first.toList, cOs caps.toList with
   | some l,some m=>some (.v (.mfn f l m))
   | _,_=>none
 | .makeSlice t len cap => match qgv P t, cO len, cO cap with
   | some e, some l, some c => match qcb P e, qig P e, qgt P e with
     | some n,some bytes,some z=>if z.cells.length=n∧z.cells.all AV.leaf∧0<n then some (.mks n z bytes l c) else none
     | _,_,_=>none
   | _,_,_=>none
 | .slice t x lo hi mx => match P.underlying t, cO x, cOo lo, cOo hi, cOo mx with
   | some .string,some a,some l,some h,some none=>some (.v (.sls a l h))
   | some (.slice e),some a,some l,some h,some m=>(qcb P e).map fun n=>.v (.slv n a l h m)
   | some (.array len e),some a,some (some l),some none,some none=>if qcb P e=some 1 then some (.v (.sla len a l)) else none
   | _,_,_,_,_=>none
 | .fieldAddr t x f => match P.underlying t, cO x with
   | some (.struct fs), some a => match fs[f]? with
     | some fl => match qcb P fl.type with
       | some n=>if 0<n then some (.v (.fad a fl.offset)) else none
       | none=>none
     | none=>none
   | _,_=>none
 | .field t x f => match P.underlying t, cO x with
   | some (.struct fs), some a => match fs[f]? with
     | some fl => match qcb P fl.type, aggT P fl.type with
       | some n,some g=>some (.v (.fld g n fl.offset a))
       | _,_=>none
     | none=>none
   | _,_=>none
 | .indexAddr t x i => match P.underlying t, cO x, cO i with
   | some (.slice e),some a,some i=>(qcb P e).map fun n=>.v (.iad n a i)
   | some (.array len e),some a,some i=>(qcb P e).map fun n=>.v (.aad n len a i)
   | _,_,_=>none
 | .index t x i => match P.underlying t, cO x, cO i with
   | some .string,some a,some i=>some (.v (.idx a i))
   | some (.array len e), some a, some i => match qcb P e, aggT P e with
     | some n,some g=>some (.v (.ida g n len a i))
     | _,_=>none
   | _,_,_=>none
 | .typeAssert x _ t true => match P.underlying t, qgt P t, cO x with
   | some (.interface _),_,_=>none
   | some _,some z,some a=>some (.v (.tya t z a))
   | _,_,_=>none
 | .extract x i=>(cO x).map fun a=>.v (.ext a i)
 | .call c=>qbgv P c o.type
 | .makeMap t none=>some (.call (.c (mkV (.make t))) [])
 | .lookup t x i ok=>(qla P [x,i] []).map fun l=>.call (.c (mkV (.look t ok))) l
 | .mapUpdate t m i x => match P.underlying t with
   | some (.map kt e)=>(qla P [m,i,x] [t,kt,e]).map fun l=>.call (.c (mkV (.upd t))) l
   | _=>none
 | _=>none

def cG(ops:Array Oper):Option (Nat×Bool)->Option (Option (Nat×Bool))
 | none=>some none
 | some (j, b) => match (ops[j]?).bind (·.dst) with
   | some d=>some (some (d,b))
   | none=>none
def cGI(P:Program)(ops:Array Oper)(ntmps:Nat)(o:Oper):Option GI :=
 match cG ops o.guard,cI P o with
 | some g,some i=>if o.dst.all (· < ntmps) then some ⟨g,o.dst,i⟩ else none
 | _,_=>none
def cL(P:Program)(ops:Array Oper)(ntmps:Nat):List Oper->Option (List GI)
 | []=>some []
 | o :: r => match cGI P ops ntmps o, cL P ops ntmps r with
   | some a,some l=>some (a::l)
   | _,_=>none

end Go.V

/-
 The value logic, part d: each operation that yields a value does what its evaluation says.
-/
namespace Go.V
open Go Go.RowKit

section types
variable {P:Program} {w:World} {t:TypeId}

theorem run_underlying{d:TypeDesc}(h:P.underlying t=some d):(underlying t).run P w=.ok d w:=by
 simp[underlying,h]
theorem qdp{g:Bool}(h:aggT P t=some g):(isAgg t).run P w=.ok g w:=by
 unfold aggT at h
 unfold isAgg
 cases hu:P.underlying t with
 | none=>simp[hu] at h
 | some d =>
   simp only[Sem.run_bind,run_underlying hu,Result.andThen_ok]
   cases d<;>simp[hu] at h<;>subst h<;>rfl
theorem qw{n:Nat}(h:qcb P t=some n):(sizeOf t).run P w=.ok n w:=by
 unfold qcb at h
 cases hu:P.info? t with
 | none=>simp[hu] at h
 | some i=>simp[hu] at h;simp[sizeOf,typeInfo,hu,h]
end types

section
variable {P:Program} {w:World} {M:Nat->Nat->Prop} {G:List Gh} {H:List Ent}

theorem qt5{v:Value}{x:AV}(h:ofV v=some x):VR w M G x v∧x.leaf=true:=by
 unfold ofV at h
 split at h<;>simp at h
 all_goals first | (obtain⟨h1,rfl⟩:=h) | subst h
 all_goals first | (simp[VR,AV.leaf];done) | skip
 ·rename_i k n;exact⟨by simp[VR,h1],rfl⟩
 ·rename_i s; exact ⟨⟨by simp, by have : s.data.toList.length ≤ 4294967296 := by simpa using h1
                                  unfold maxLen;omega⟩,rfl⟩
 ·rename_i f first caps
  obtain⟨h1,h2⟩:=h1
  refine⟨⟨[],[],by simp[VRs],by simp[VRs],?_⟩,rfl⟩
  simp[h1,h2]
theorem q1i{vs:List Value}{xs:List AV}(h:ofVs vs=some xs):VRs w M G xs vs∧xs.all AV.leaf=true:=by
 induction vs generalizing xs with
 | nil=>simp[ofVs] at h;subst h;simp[VRs]
 | cons v r ih =>
   simp only[ofVs] at h
   split at h
   ·rename_i a l ha hl
    simp at h;subst h
    obtain⟨h1,h2⟩:=qt5 (w:=w) (M:=M) (G:=G) ha
    obtain⟨h3,h4⟩:=ih hl
    exact⟨⟨v,r,rfl,h1,h3⟩,by simp[h2];simpa using h4⟩
   ·cases h
def AV.flat(v:AV):Prop:=(v.isAgg=true∧v.cells.all AV.leaf=true)∨v.leaf=true
theorem qtq{v:Value}{x:AV}(h:ofW v=some x):VR w M G x v∧x.flat:=by
 unfold ofW at h
 split at h
 ·rename_i cs
  simp at h
  obtain⟨l,hl,rfl⟩:=h
  obtain⟨h1,h2⟩:=q1i (w:=w) (M:=M) (G:=G) hl
  exact⟨⟨cs.toList,by simp,h1⟩,.inl ⟨rfl,h2⟩⟩
 ·obtain⟨h1,h2⟩:=qt5 (w:=w) (M:=M) (G:=G) h
  exact⟨h1,.inr h2⟩

def DR(w:World)(M:Nat->Nat->Prop)(G:List Gh):List AD->List Deferred->Prop
 | [],ds=>ds=[]
 | .mark i::l,ds=>∃(g:Gh) (r:List Deferred),ds={ target:=.collected g.cap,args:=#[] }::r∧G[i]?=some g∧DR w M G l r
 | .dfr f args::l,ds=>∃(t:Fn) (first caps:Array Value) (xs:List Value) (r:List Deferred),ds={ target:=.fn t caps,args:=first++xs.toArray }::r∧VR w M G f (.func t first caps)∧VRs w M G args xs∧DR w M G l r

theorem qg0{w':World}{M':Nat->Nat->Prop}{G':List Gh}(hG:∀(i:Nat) (g:Gh),G[i]?=some g->∃g':Gh,G'[i]?=some g'∧g'.core=g.core)
 (hM:∀b o,M b o->M' b o∧w'.cell? ⟨b,o,none⟩=w.cell? ⟨b,o,none⟩):∀{l:List AD} {ds:List Deferred},DR w M G l ds->DR w' M' G' l ds
 | [],_,h=>h
 | .mark i :: l, ds, h => by
   obtain⟨g,r,h1,h2,h3⟩:=h
   obtain⟨g',h4,h5⟩:=hG i g h2
   exact⟨g',r,by rw[h1,(qb7 h5).2.1],h4,qg0 hG hM h3⟩
 | .dfr f args :: l, ds, h => by
   obtain⟨t,first,caps,xs,r,h1,h2,h3,h4⟩:=h
   exact⟨t,first,caps,xs,r,h1,qsx hG hM h2,qca hG hM h3,qg0 hG hM h4⟩

structure RelF(w:World)(M:Nat->Nat->Prop)(G:List Gh)(n:Nat)(af:AF)(a:Act):Prop where
 size:a.tmps.size=n
 defers:DR w M G af.dl a.defers
 rd:∀t,VR w M G (get af.tm t) (a.tmps.getD t undef)

theorem RelF.ext{n:Nat}{af:AF}{a:Act}{w':World}{M':Nat->Nat->Prop}{G':List Gh}(h:RelF w M G n af a)(e:Ext w M G w' M' G'):RelF w' M' G' n af a :=
 ⟨h.size,qg0 e.core e.le h.defers,fun t=>(h.rd t).ext e⟩

theorem RelF.put{n:Nat}{af:AF}{a:Act}{v:AV}{x:Value}{d:Option Nat}(h:RelF w M G n af a)(hv:VR w M G v x)(hd:d.all (· < n)=true):RelF w M G n (put af d v) (a.put d x):=by
 cases d with
 | none=>exact h
 | some k =>
   simp at hd
   refine⟨by simp[Act.put,h.size],h.defers,fun t=>?_⟩
   simp only[V.put,get,Act.put]
   by_cases hk:k=t
   ·subst hk
    rw[if_pos rfl]
    have:k<a.tmps.size:=by rw[h.size];exact hd
    simp[this];exact hv
   ·rw[if_neg hk]
    have:=h.rd t
    simp only[Array.getD_eq_getD_getElem?,Array.getElem?_setIfInBounds_ne hk] at this ⊢
    exact this

variable {n:Nat} {af:AF} {a:Act}

theorem qt{x:Operand}{y:Opd}(h:cO x=some y)(hr:RelF w M G n af a):VR w M G (gt af y) (a.eval x):=by
 cases x with
 | tmp t=>simp[cO] at h;subst h;exact hr.rd t
 | const v=>simp[cO] at h;obtain⟨z,hz,rfl⟩:=h;exact(qtq hz).1
 | global g=>simp[cO] at h
 | func f=>simp[cO] at h;subst h;exact⟨[],[],by simp[VRs],by simp[VRs],rfl⟩
theorem qtk{xs:List Operand}{ys:List Opd}(h:cOs xs=some ys)(hr:RelF w M G n af a):VRs w M G (gts af ys) (xs.map a.eval):=by
 induction xs generalizing ys with
 | nil=>simp[cOs] at h;subst h;simp[gts,VRs]
 | cons x r ih =>
   simp only[cOs] at h
   split at h
   ·rename_i b l hb hl
    simp at h;subst h
    exact⟨_,_,rfl,qt hb hr,ih hl⟩
   ·cases h

theorem qkd{v:AV}{x:Value}(h:VR w M G v x)(ha:v.isAgg=true):∃cs:List AV,∃vs:List Value,v=.agg cs∧x=.agg vs.toArray∧VRs w M G cs vs:=by
 cases v<;>simp[AV.isAgg] at ha
 rename_i cs
 obtain⟨vs,rfl,h⟩:=h
 exact⟨cs,vs,rfl,rfl,h⟩
theorem qg5{v:AV}{x:Value}(h:VR w M G v x)(hl:v.leaf=true):x.oneCell'=true∧x.cells = #[x]:=by
 cases v<;>simp[AV.leaf] at hl<;>simp only[VR] at h
 case opq i=>obtain⟨g,_,rfl,h1⟩:=h;refine⟨h1,?_⟩;cases hv:g.val<;>simp_all[Value.oneCell',Value.cells]
 all_goals first
  | (subst h;exact⟨rfl,rfl⟩)
  | (obtain⟨rfl,_⟩:=h;exact⟨rfl,rfl⟩)
  | (obtain⟨_,_,rfl⟩:=h;exact⟨rfl,rfl⟩)
  | (obtain⟨_,_,_,_,_,rfl⟩:=h;exact⟨rfl,rfl⟩)
  | (obtain⟨_,_,_,_,rfl⟩:=h;exact⟨rfl,rfl⟩)
  | (obtain⟨_,_,_,_,_,_,rfl⟩:=h;exact⟨rfl,rfl⟩)
theorem qd4{v:AV}{x:Value}(h:VR w M G v x)(hf:v.isAgg=true∨v.leaf=true):VRs w M G v.cells x.cells.toList:=by
 rcases hf with hf | hf
 ·obtain⟨cs,vs,rfl,rfl,h1⟩:=qkd h hf;simpa [AV.cells,Value.cells] using h1
 ·have hc:=(qg5 h hf).2
  rw[hc]
  have:v.cells=[v]:=by cases v<;>simp[AV.leaf] at hf<;>rfl
  rw[this]
  exact⟨x,[],by simp,h,by simp[VRs]⟩
theorem qmv{cs:List AV}{vs:List Value}(h:VRs w M G cs vs)(hl:cs.all AV.leaf=true):∀u∈vs,u.oneCell'=true:=by
 induction cs generalizing vs with
 | nil=>simp only[VRs] at h;subst h;simp
 | cons c cs ih =>
   simp only[VRs] at h
   obtain⟨v,r,rfl,hv,h⟩:=h
   simp at hl
   intro u hu
   simp at hu
   rcases hu with rfl | hu
   ·exact(qg5 hv hl.1).1
   ·exact ih h (by simpa using hl.2) u hu

theorem qen(b o k:Nat):(⟨b,o,none⟩:Addr).add k=⟨b,o+k,none⟩:=by
 unfold Addr.add
 split
 ·rename_i h;simp[h]
 ·rfl
theorem qje{a:Addr}(h:a.spot=none)(k:Nat):a.add k=⟨a.block,a.off+k,none⟩:=by
 cases a;simp at h;subst h;exact qen _ _ _

theorem qe5{b o:Nat}{vs:List Value}(h:∀j v,vs[j]?=some v->w.cell? ⟨b,o+j,none⟩=some v)(k m:Nat)(hm:k+m≤vs.length):
 (loadCells ⟨b,o+k,none⟩ m).run P w=.ok ((vs.drop k).take m).toArray w:=by
 have hl:((vs.drop k).take m).length=m:=by simp;omega
 have:=run_loadCells_list (P:=P) w ⟨b,o+k,none⟩ ((vs.drop k).take m) (fun j v hj=>by
  rw[qen]
  have hjm:j<m:=by have:=(List.getElem?_eq_some_iff.1 hj).1;omega
  rw[List.getElem?_take_of_lt hjm,List.getElem?_drop] at hj
  have:=h (k+j) v hj
  rwa [←Nat.add_assoc] at this)
 rwa [hl] at this

theorem qec{b:Nat}{vs:List Value}{t:TypeId}{fz:Nat×Nat}(h:w.heap[b]?=some (.cells vs.toArray t fz))(j:Nat):w.cell? ⟨b,j,none⟩=vs[j]?:=by
 simp[World.cell?,h]

theorem q7q{cs:List AV}{vs:List Value}(h:VRs w M G cs vs)(off m:Nat):VRs w M G (tk off m cs) ((vs.drop off).take m):=qep (qfd h off) m

theorem qc1{cs:List AV}{vs:List Value}(h:VRs w M G cs vs){i:Nat}(hi:i<cs.length):∃v,vs[i]?=some v∧VR w M G (cs.getD i .junk) v:=by
 obtain⟨v,h1,h2⟩:=qnq h (List.getElem?_eq_getElem hi)
 exact⟨v,h1,by simpa [List.getD,List.getElem?_eq_getElem hi] using h2⟩

theorem q8b{t:TypeId}{g:Bool}{m off b o:Nat}{cs:List AV}{vs:List Value}{k:AV->Prop}(hg:aggT P t=some g)(hm:qcb P t=some m)
 (hc:∀j v,vs[j]?=some v->w.cell? ⟨b,o+j,none⟩=some v) (hv:VRs w M G cs vs) (h:(ldc g m off cs).bnd k) :
 ∃v y,k v∧VR w M G v y∧(loadVar t ⟨b,o+off,none⟩).run P w=.ok y w:=by
 have hlen:=ql hv
 cases g with
 | true =>
   simp only[ldc,Rs.bnd] at h
   obtain⟨h1,h2⟩:=h
   refine⟨_,_,h2,⟨(vs.drop off).take m,rfl,q7q hv off m⟩,?_⟩
   simp only[loadVar,Sem.run_bind,qdp hg,Result.andThen_ok,if_true,qw hm,qe5 hc off m (by omega),Sem.run_pure]
 | false =>
   simp only[ldc,Rs.bnd] at h
   obtain⟨h1,h2⟩:=h
   obtain⟨v,h3,h4⟩:=qc1 hv h1
   refine⟨_,v,h2,h4,?_⟩
   simp only[loadVar,Sem.run_bind,qdp hg,Result.andThen_ok,Bool.false_eq_true,if_false,run_load,hc off v h3]

theorem q0q{us:List Value}{m:Nat}(hm:∀u∈us,u.cells.size=m){k:Nat}{u:Value}(hu:us[k]?=some u){j:Nat}{v:Value}(hv:u.cells.toList[j]?=some v):
 (us.flatMap (·.cells.toList))[k*m+j]?=some v:=by
 induction us generalizing k with
 | nil=>simp at hu
 | cons x us ih =>
   have hx:x.cells.toList.length=m:=by have:=hm x (by simp);simpa using this
   rw[List.flatMap_cons]
   cases k with
   | zero =>
     simp at hu;subst hu
     have:=(List.getElem?_eq_some_iff.1 hv).1
     rw[List.getElem?_append_left (by omega)]
     simpa using hv
   | succ k =>
     simp at hu
     have:=ih (fun u hu=>hm u (by simp[hu])) hu
     rw[List.getElem?_append_right (by rw[hx,Nat.add_mul];omega),hx]
     rw[show(k+1)*m+j-m=k*m+j by rw[Nat.add_mul];omega]
     exact this
theorem qbz{us:List Value}{m:Nat}(hm:∀u∈us,u.cells.size=m):(us.flatMap (·.cells.toList)).length=us.length*m:=by
 induction us with
 | nil=>simp
 | cons x us ih =>
   have hx:x.cells.toList.length=m:=by have:=hm x (by simp);simpa using this
   rw[List.flatMap_cons,List.length_append,ih (fun u hu=>hm u (by simp[hu])),hx,List.length_cons,Nat.add_mul];omega

theorem qnj{t:TypeId}{g:Bool}{m m' off b o:Nat}{e:AV}{u:Value}{k:AV->Prop}(hg:aggT P t=some g)(hm:qcb P t=some m)
 (hc:∀j v,u.cells.toList[j]?=some v->w.cell? ⟨b,o+j,none⟩=some v) (hv:VR w M G e u) (hs:u.cells.size=m') (h:(lde g m m' off e).bnd k) :
 ∃v y,k v∧VR w M G v y∧(loadVar t ⟨b,o+off,none⟩).run P w=.ok y w:=by
 cases g with
 | true =>
   simp only[lde] at h
   split at h
   ·rename_i h0
    obtain⟨rfl,rfl⟩:=h0
    simp only[Rs.bnd] at h
    obtain⟨h1,h2⟩:=h
    obtain⟨cs,vs,rfl,rfl,h3⟩:=qkd hv h1
    refine⟨_,_,h2,hv,?_⟩
    simp only[Value.cells] at hc hs
    simp only[loadVar,Sem.run_bind,qdp hg,Result.andThen_ok,if_true,qw hm,Nat.add_zero]
    have hlen:vs.length=m:=by simpa using hs
    have:=qe5 (P:=P) (b:=b) (o:=o) (vs:=vs) (by simpa using hc) 0 m (by omega)
    rw[Nat.add_zero] at this
    rw[this]
    simp[hlen,List.take_of_length_le]
   ·simp only[Rs.bnd] at h
    obtain⟨⟨h1,h1'⟩,h2⟩:=h
    obtain⟨cs,vs,rfl,rfl,h3⟩:=qkd hv h1
    simp only[Value.cells] at hc hs
    refine⟨_,_,h2,⟨(vs.drop off).take m,rfl,q7q h3 off m⟩,?_⟩
    have hlen:vs.length=m':=by simpa using hs
    simp only[loadVar,Sem.run_bind,qdp hg,Result.andThen_ok,if_true,qw hm,qe5 (P:=P) (b:=b) (o:=o) (vs:=vs) (by simpa using hc) off m (by omega),Sem.run_pure]
 | false =>
   simp only[lde] at h
   cases he:e.isAgg with
   | true =>
     simp only[he,cond_true,Rs.bnd] at h
     obtain⟨h1,h2⟩:=h
     obtain⟨cs,vs,rfl,rfl,h3⟩:=qkd hv he
     simp only[Value.cells,AV.cells] at hc hs h2
     have hlen:vs.length=m':=by simpa using hs
     have hl:=ql h3
     obtain⟨v,h4,h5⟩:=qc1 h3 (i:=off) (by omega)
     refine⟨_,v,h2,h5,?_⟩
     simp only[loadVar,Sem.run_bind,qdp hg,Result.andThen_ok,Bool.false_eq_true,if_false,run_load,hc off v (by simpa using h4)]
   | false =>
     simp only[he,cond_false,Rs.bnd] at h
     obtain⟨⟨rfl,rfl,h1⟩,h2⟩:=h
     refine⟨_,u,h2,hv,?_⟩
     have:=(qg5 hv h1).2
     rw[this] at hc
     simp only[loadVar,Sem.run_bind,qdp hg,Result.andThen_ok,Bool.false_eq_true,if_false,run_load,hc 0 u (by simp)]

theorem qba{i:Nat}{e:Ent}(h:ent H i=e)(he:e≠.dead):H[i]?=some e:=by
 induction H generalizing i with
 | nil=>simp[ent] at h;exact absurd h.symm he
 | cons x r ih =>
   cases i with
   | zero=>simp[ent] at h;simp[h]
   | succ i=>simp[ent] at h;simpa using ih h

theorem qzl{g:Gh}{m:Nat}{es:List AV}(h:qlw w M G g m es){k:Nat}(hk:k<es.length):
 ∃u,VR w M G (es.getD k .junk) u∧u.cells.size=m∧∀j v,u.cells.toList[j]?=some v->w.cell? ⟨g.blk,k*m+j,none⟩=some v:=by
 obtain⟨h1,h2,vs,t,us,h3,h4,h5,h6,h7⟩:=h
 obtain⟨u,h8,h9⟩:=qc1 h5 hk
 refine⟨u,h9,h6 u (List.mem_of_getElem? h8),fun j v hj=>?_⟩
 rw[qec h3]
 have:=q0q h6 h8 hj
 rw[←h7] at this
 have hlt:=(List.getElem?_eq_some_iff.1 this).1
 simp at hlt
 rwa [List.getElem?_take_of_lt (by omega)] at this

theorem qbs8{m cap:Nat}{us:List Value}{ad:Addr}{es:List AV}(hv:VRs w M G es us)(h:SlOK w M m us (some ad) cap){k:Nat}(hk:k<us.length):
 ∃u,VR w M G (es.getD k .junk) u∧u.cells.size=m∧∀j v,u.cells.toList[j]?=some v->w.cell? ⟨ad.block,ad.off+(k*m+j),none⟩=some v:=by
 obtain⟨h1,h2,h3,h4⟩:=h
 obtain⟨h4,h5⟩:=h4.resolve_left (fun e=>by subst e;simp at hk)
 have hl:=ql hv
 obtain⟨u,h8,h9⟩:=qc1 hv (i:=k) (by omega)
 refine⟨u,h9,h3 u (List.mem_of_getElem? h8),fun j v hj=>?_⟩
 exact(h5 _ _ (q0q h3 h8 hj)).1

theorem qbo{t:TypeId}{b o:Nat}:(Instr.loadAt t (.pointer (some ⟨b,o,none⟩))).run P w=(loadVar t ⟨b,o,none⟩).run P w:=by
 simp[Instr.loadAt,Instr.sureAddr]

theorem qoh{t:TypeId}{g:Bool}{m:Nat}{p:AV}{x:Value}{k:AV->Prop}(hst:St w M G H)(hg:aggT P t=some g)(hm:qcb P t=some m)(hp:VR w M G p x)
 (h:(ldv g m H p).bnd k):∃v y,k v∧VR w M G v y∧(Instr.loadAt t x).run P w=.ok y w:=by
 cases p<;>simp only[ldv,Rs.bnd] at h
 case ptr i off =>
  obtain⟨g0,hg0,rfl⟩:=hp
  rw[qbo]
  cases he:ent H i<;>simp only[he,Rs.bnd] at h
  rename_i cs
  have hok:=hst.ok i g0 _ hg0 (qba he (by simp))
  obtain⟨h1,⟨vs,t',h2,h3⟩,h4⟩:=hok
  have:=q8b (b:=g0.blk) (o:=0) hg hm (vs:=vs) (fun j v hj=>by rw[qec h2];simpa using hj) h3 h
  simpa using this
 case eptr n' es kk off =>
  obtain⟨ad,cap,us,h1,h2,h3,rfl⟩:=hp
  rw[qbo]
  obtain⟨u,h4,h5,h6⟩:=qbs8 h1 h2 h3
  have:=qnj (b:=ad.block) (o:=ad.off+kk*n') hg hm (fun j v hj=>by rw[Nat.add_assoc];exact h6 j v hj) h4 h5 h
  rwa [Nat.add_assoc] at this
 case rptr i n' kk off =>
  obtain⟨g0,hg0,rfl⟩:=hp
  rw[qbo]
  cases he:ent H i<;>simp only[he,Rs.bnd] at h
  ·rename_i m' es
   obtain⟨⟨rfl,h0⟩,h⟩:=h
   obtain⟨_,hrow,_⟩:=hst.ok i g0 _ hg0 (qba he (by simp))
   obtain⟨u,h4,h5,h6⟩:=qzl hrow h0
   exact qnj (b:=g0.blk) (o:=kk*m') hg hm h6 h4 h5 h
  ·rename_i m' es
   obtain⟨⟨rfl,h0⟩,h⟩:=h
   obtain⟨_,hrow,_⟩:=hst.ok i g0 _ hg0 (qba he (by simp))
   obtain⟨u,h4,h5,h6⟩:=qzl hrow h0
   exact qnj (b:=g0.blk) (o:=kk*m') hg hm h6 h4 h5 h

mutual
theorem qdo(hst:St w M G H):∀(c:Co) (v:AV) (x:Value),VR w M G v x->VR w M G (co H c v) x
 | .id,v,x,h=>by cases v<;>exact h
 | .sl n, v, x, h => by
   cases v<;>try exact h
   case nils =>
    simp only[VR] at h;subst h
    simp only[co,VR]
    exact⟨none,0,[],by simp[VRs],⟨by simp,by simp[maxLen],by simp,rfl⟩,rfl⟩
   case lit m es =>
    simp only[co,VR] at h ⊢
    obtain⟨a,us,h1,h2,rfl⟩:=h
    exact⟨a,us.length,us,h1,h2,rfl⟩
   case row i len =>
    simp only[co]
    cases he:ent H i<;>try exact h
    rename_i m es
    simp only
    split
    ·rename_i hl
     obtain⟨g,hg,rfl⟩:=h
     obtain⟨_,⟨h1,h2,vs,t,us,h3,h4,h5,h6,h7⟩,h8⟩:=hst.ok i g _ hg (qba he (by simp))
     have hul:=ql h5
     refine⟨some ⟨g.blk,0,none⟩,g.cap,us,h5,⟨by omega,h2,h6,.inr ⟨rfl,fun j v hj=>?_⟩⟩,by rw[hul,hl]⟩
     have hj':(vs.take (m*es.length))[j]?=some v:=by rw[h7];exact hj
     have hlt:=(List.getElem?_eq_some_iff.1 hj').1
     simp at hlt
     rw[List.getElem?_take_of_lt (by omega)] at hj'
     refine⟨by simp only[Nat.zero_add];rw[qec h3];exact hj',?_⟩
     simp only[Nat.zero_add]
     exact(h8 j).2 (by omega)
    ·exact h
 | .agg l, v, x, h => by
   cases v<;>try exact h
   rename_i vs
   simp only[co,VR] at h ⊢
   obtain⟨xs,rfl,h⟩:=h
   exact⟨xs,rfl,qs9 hst l vs xs h⟩
theorem qs9(hst:St w M G H):∀(l:List Co) (vs:List AV) (xs:List Value),VRs w M G vs xs->VRs w M G (cos H l vs) xs
 | [],vs,xs,h=>h
 | _::_,[],xs,h=>by simpa [cos] using h
 | c :: l, v :: vs, xs, h => by
   simp only[cos,VRs] at h ⊢
   obtain⟨x,r,rfl,h1,h2⟩:=h
   exact⟨x,r,rfl,qdo hst c v x h1,qs9 hst l vs r h2⟩
end

theorem q22{off:Nat}{p:AV}{x:Value}{k:AV->Prop}(hp:VR w M G p x)(h:(fadv off p).bnd k):
 ∃v b o,k v∧VR w M G v (.pointer (some ⟨b,o+off,none⟩))∧x=.pointer (some ⟨b,o,none⟩):=by
 cases p<;>simp only[fadv,Rs.bnd] at h
 ·obtain⟨g,hg,rfl⟩:=hp;exact⟨_,_,_,h,⟨g,hg,rfl⟩,rfl⟩
 ·obtain⟨a,cap,us,h1,h2,h3,rfl⟩:=hp;exact⟨_,_,_,h,⟨a,cap,us,h1,h2,h3,by rw[Nat.add_assoc,Nat.add_assoc]⟩,rfl⟩
 ·obtain⟨g,hg,rfl⟩:=hp;exact⟨_,_,_,h,⟨g,hg,by rw[Nat.add_assoc]⟩,rfl⟩

theorem qpr{t:TypeId}{g:Bool}{m off:Nat}{cs:List AV}{vs:List Value}{k:AV->Prop}(hg:aggT P t=some g)(hm:qcb P t=some m)(hv:VRs w M G cs vs)(h:(ldc g m off cs).bnd k):
 ∃v y,k v∧VR w M G v y∧(part t vs.toArray off).run P w=.ok y w:=by
 have hlen:=ql hv
 cases g with
 | true =>
   simp only[ldc,Rs.bnd] at h
   obtain⟨h1,h2⟩:=h
   refine⟨_,_,h2,⟨(vs.drop off).take m,rfl,q7q hv off m⟩,?_⟩
   simp only[part,Sem.run_bind,qdp hg,Result.andThen_ok,if_true,qw hm,Sem.run_pure]
   simp[List.drop_take]
 | false =>
   simp only[ldc,Rs.bnd] at h
   obtain⟨h1,h2⟩:=h
   obtain⟨v,h3,h4⟩:=qc1 hv h1
   refine⟨_,v,h2,h4,?_⟩
   simp only[part,Sem.run_bind,qdp hg,Result.andThen_ok,Bool.false_eq_true,if_false]
   simp[h3]
end
end Go.V
