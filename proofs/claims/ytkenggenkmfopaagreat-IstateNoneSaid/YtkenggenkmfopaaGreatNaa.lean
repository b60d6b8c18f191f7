/- A text of this proof. -/
import Derived.OrdersIn
import Derived.RangeFuncIn
import Derived.Laws.Cells
import Derived.Laws.World
import Derived.Laws.Sem
import Derived.Laws.NewBlocks
import Derived.Below
import Derived.KernelRfl
set_option linter.unusedVariables false
set_option linter.unusedSimpArgs false

/-
 The value logic, part a: abstract values (slices by content), ghost entries for memory that may qez change, and the relation of both to the model's worlds.
-/
namespace Go.V
open Go Go.RowKit

inductive AV where
 | bool (b:Bool)
 | int (k:IntKind) (n:Int)
 | str (l:List UInt8)
 | nilp
 | nilf
 | nili
 | nils
 | nilm
 | agg (cs:List AV)
 | tup (vs:List AV)
 | sl (n:Nat) (es:List AV)
 | lit (n:Nat) (es:List AV)
 | ptr (i off:Nat)
 | row (i len:Nat)
 | eptr (n:Nat) (es:List AV) (k off:Nat)
 | rptr (i n k off:Nat)
 | vw (i off len cap:Nat)
 | fn (f:FuncId) (first caps:List AV)
 | opq (i:Nat)
 | iface (t:TypeId) (v:AV)
 | junk

structure Gh where
 blk:Nat:=0
 cap:Nat:=0
 val:Value:=.nilIface
 fp:Nat->Prop:=fun _=>False

def Gh.core (g:Gh):Nat×Nat×Value:=(g.blk,g.cap,g.val)

def Mem (w:World) (M:Nat->Nat->Prop) (b o:Nat) (vs:List Value):Prop :=
 ∀ j v,vs[j]? = some v->w.cell? ⟨b,o + j,none⟩ = some v∧M b (o + j)

def SlOK (w:World) (M:Nat->Nat->Prop) (n:Nat) (us:List Value) (a:Option Addr) (cap:Nat):Prop :=
 us.length≤cap∧cap≤maxLen∧(∀ u∈us,u.cells.size = n) ∧
 match a with
 | none=>cap = 0
 | some ad=>us = []∨(ad.spot = none∧Mem w M ad.block ad.off (us.flatMap (·.cells.toList)))

mutual
def VR (w:World) (M:Nat->Nat->Prop) (G:List Gh):AV->Value->Prop
 | .bool b,x=>x = .bool b
 | .int k n,x=>x = .int k n∧(Lit.int k n).wf = true
 | .str l,x=>x = .string ⟨l.toArray⟩∧l.length≤maxLen
 | .nilp,x=>x = .pointer none
 | .nilf,x=>x = .nilFunc
 | .nili,x=>x = .nilIface
 | .nils,x=>x = .slice none 0 0
 | .nilm,x=>x = .map none
 | .agg cs,x=>∃ vs:List Value,x = .agg vs.toArray∧VRs w M G cs vs
 | .tup cs,x=>∃ vs:List Value,x = .tuple vs.toArray∧VRs w M G cs vs
 | .sl n es,x=>∃ a cap us,VRs w M G es us∧SlOK w M n us a cap∧x = .slice a us.length cap
 | .lit n es,x=>∃ a us,VRs w M G es us∧SlOK w M n us a us.length∧x = .slice a us.length us.length
 | .ptr i off,x=>∃ g,G[i]? = some g∧x = .pointer (some ⟨g.blk,off,none⟩)
 | .row i len,x=>∃ g,G[i]? = some g∧x = .slice (some ⟨g.blk,0,none⟩) len g.cap
 | .eptr n es k off,x=>∃ a cap us,VRs w M G es us∧SlOK w M n us (some a) cap∧k < us.length∧x = .pointer (some ⟨a.block,a.off + (k * n + off),none⟩)
 | .rptr i n k off,x=>∃ g,G[i]? = some g∧x = .pointer (some ⟨g.blk,k * n + off,none⟩)
 | .vw i off len cap,x=>∃ g,G[i]? = some g∧x = .slice (some ⟨g.blk,off,none⟩) len cap
 | .fn f first caps,x=>∃ xs ys:List Value,VRs w M G first xs∧VRs w M G caps ys∧x = .func (.func f) xs.toArray ys.toArray
 | .opq i,x=>∃ g,G[i]? = some g∧x = g.val∧g.val.oneCell' = true
 | .iface t v,x=>∃ y,VR w M G v y∧x = .iface t y
 | .junk,_=>True
def VRs (w:World) (M:Nat->Nat->Prop) (G:List Gh):List AV->List Value->Prop
 | [],vs=>vs = []
 | c :: cs,vs=>∃ v r,vs = v :: r∧VR w M G c v∧VRs w M G cs r
end

mutual
def AV.ren (σ:Nat->Nat):AV->AV
 | .agg cs=>.agg (AV.rens σ cs)
 | .tup cs=>.tup (AV.rens σ cs)
 | .sl n es=>.sl n (AV.rens σ es)
 | .lit n es=>.lit n (AV.rens σ es)
 | .ptr i off=>.ptr (σ i) off
 | .row i len=>.row (σ i) len
 | .eptr n es k off=>.eptr n (AV.rens σ es) k off
 | .rptr i n k off=>.rptr (σ i) n k off
 | .vw i off len cap=>.vw (σ i) off len cap
 | .fn f first caps=>.fn f (AV.rens σ first) (AV.rens σ caps)
 | .opq i=>.opq (σ i)
 | .iface t v=>.iface t (AV.ren σ v)
 | .bool b=>.bool b
 | .int k n=>.int k n
 | .str l=>.str l
 | .nilp=>.nilp
 | .nilf=>.nilf
 | .nili=>.nili
 | .nils=>.nils
 | .nilm=>.nilm
 | .junk=>.junk
def AV.rens (σ:Nat->Nat):List AV->List AV
 | []=>[]
 | c :: cs=>AV.ren σ c :: AV.rens σ cs
end

mutual
def AV.bd (m:Nat):AV->Bool
 | .agg cs=>AV.bds m cs
 | .tup cs=>AV.bds m cs
 | .sl _ es=>AV.bds m es
 | .lit _ es=>AV.bds m es
 | .ptr i _=>decide (i < m)
 | .row i _=>decide (i < m)
 | .eptr _ es _ _=>AV.bds m es
 | .rptr i _ _ _=>decide (i < m)
 | .vw i _ _ _=>decide (i < m)
 | .fn _ first caps=>AV.bds m first && AV.bds m caps
 | .opq i=>decide (i < m)
 | .iface _ v=>AV.bd m v
 | .bool _ | .int _ _ | .str _ | .nilp | .nilf | .nili | .nils | .nilm | .junk=>true
def AV.bds (m:Nat):List AV->Bool
 | []=>true
 | c :: cs=>AV.bd m c && AV.bds m cs
end

def AV.leaf:AV->Bool
 | .agg _ | .tup _ | .junk=>false
 | _=>true

def AV.cells:AV->List AV
 | .agg cs=>cs
 | v=>[v]

theorem qm6 (σ:Nat->Nat) (l:List AV):AV.rens σ l = l.map (AV.ren σ):=by
 induction l with
 | nil=>rfl
 | cons c l ih=>simp [AV.rens,ih]
theorem qcn (m:Nat) (l:List AV):AV.bds m l = l.all (AV.bd m):=by
 induction l with
 | nil=>rfl
 | cons c l ih=>simp [AV.bds,ih]

section
variable {w w':World} {M M':Nat->Nat->Prop} {G G':List Gh}

theorem qe {cs:List AV} {vs:List Value} (h:VRs w M G cs vs):vs.length = cs.length:=by
 induction cs generalizing vs with
 | nil=>simp only [VRs] at h;subst h;rfl
 | cons c cs ih=>simp only [VRs] at h;obtain ⟨v,r,rfl,_,h⟩:=h;simp [ih h]

theorem qkt {cs:List AV} {vs:List Value} (h:VRs w M G cs vs) {i:Nat} {c:AV} (hc:cs[i]? = some c):∃ v,vs[i]? = some v∧VR w M G c v:=by
 induction cs generalizing vs i with
 | nil=>simp at hc
 | cons d cs ih =>
   simp only [VRs] at h
   obtain ⟨v,r,rfl,hv,h⟩:=h
   cases i with
   | zero=>simp at hc;subst hc;exact ⟨v,by simp,hv⟩
   | succ i=>simp at hc;obtain ⟨x,hx,hr⟩:=ih h hc;exact ⟨x,by simpa using hx,hr⟩

theorem qbc {cs ds:List AV} {vs us:List Value} (h:VRs w M G cs vs) (h':VRs w M G ds us):VRs w M G (cs ++ ds) (vs ++ us):=by
 induction cs generalizing vs with
 | nil=>simp only [VRs] at h;subst h;simpa using h'
 | cons c cs ih =>
   simp only [VRs] at h
   obtain ⟨v,r,rfl,hv,h⟩:=h
   simp only [List.cons_append,VRs]
   exact ⟨v,r ++ us,rfl,hv,ih h⟩

theorem qdg {cs:List AV} {vs:List Value} (h:VRs w M G cs vs) (n:Nat):VRs w M G (cs.take n) (vs.take n):=by
 induction cs generalizing vs n with
 | nil=>simp only [VRs] at h;subst h;simp [VRs]
 | cons c cs ih =>
   simp only [VRs] at h
   obtain ⟨v,r,rfl,hv,h⟩:=h
   cases n with
   | zero=>simp [VRs]
   | succ n=>simp only [List.take_succ_cons,VRs];exact ⟨v,r.take n,rfl,hv,ih h n⟩

theorem qdy {cs:List AV} {vs:List Value} (h:VRs w M G cs vs) (n:Nat):VRs w M G (cs.drop n) (vs.drop n):=by
 induction cs generalizing vs n with
 | nil=>simp only [VRs] at h;subst h;simp [VRs]
 | cons c cs ih =>
   cases n with
   | zero=>simpa using h
   | succ n =>
     simp only [VRs] at h
     obtain ⟨v,r,rfl,hv,h⟩:=h
     simpa using ih h n

theorem qzj {cs:List AV} {vs:List Value} (h:VRs w M G cs vs) {c:AV} {v:Value} (hv:VR w M G c v) (n:Nat):VRs w M G (cs.set n c) (vs.set n v):=by
 induction cs generalizing vs n with
 | nil=>simp only [VRs] at h;subst h;simp [VRs]
 | cons d cs ih =>
   simp only [VRs] at h
   obtain ⟨x,r,rfl,hx,h⟩:=h
   cases n with
   | zero=>simp only [List.set_cons_zero,VRs];exact ⟨v,r,rfl,hv,h⟩
   | succ n=>simp only [List.set_cons_succ,VRs];exact ⟨x,r.set n v,rfl,hx,ih h n⟩

theorem q10 {b o:Nat} {vs:List Value} (hM:∀ b o,M b o->M' b o∧w'.cell? ⟨b,o,none⟩ = w.cell? ⟨b,o,none⟩) (h:Mem w M b o vs):Mem w' M' b o vs:=by
 intro j v hj
 obtain ⟨h1,h2⟩:=h j v hj
 obtain ⟨h3,h4⟩:=hM _ _ h2
 exact ⟨h4.trans h1,h3⟩

theorem qj5 {n cap:Nat} {us:List Value} {a:Option Addr} (hM:∀ b o,M b o->M' b o∧w'.cell? ⟨b,o,none⟩ = w.cell? ⟨b,o,none⟩) (h:SlOK w M n us a cap):SlOK w' M' n us a cap:=by
 obtain ⟨h1,h2,h3,h4⟩:=h
 refine ⟨h1,h2,h3,?_⟩
 cases a with
 | none=>exact h4
 | some ad=>exact h4.imp id fun h4=>⟨h4.1,q10 hM h4.2⟩

theorem qbo {g g':Gh} (h:g'.core = g.core):g'.blk = g.blk∧g'.cap = g.cap∧g'.val = g.val:=by
 simpa [Gh.core] using h

mutual
theorem qkf {σ:Nat->Nat} {m:Nat} (hG:∀ i g,i < m->G[i]? = some g->∃ g',G'[σ i]? = some g'∧g'.core = g.core)
 (hM:∀ b o,M b o->M' b o∧w'.cell? ⟨b,o,none⟩ = w.cell? ⟨b,o,none⟩):∀ (v:AV) (x:Value),v.bd m = true->VR w M G v x->VR w' M' G' (v.ren σ) x
 | .bool _,x,_,h=>h
 | .int _ _,x,_,h=>h
 | .str _,x,_,h=>h
 | .nilp,x,_,h=>h
 | .nilf,x,_,h=>h
 | .nili,x,_,h=>h
 | .nils,x,_,h=>h
 | .nilm,x,_,h=>h
 | .junk,x,_,h=>trivial
 | .agg cs, x, hb, h => by
   simp only [VR,AV.ren,AV.bd] at h hb ⊢
   obtain ⟨vs,rfl,h⟩:=h
   exact ⟨vs,rfl,qb5 hG hM cs vs hb h⟩
 | .tup cs, x, hb, h => by
   simp only [VR,AV.ren,AV.bd] at h hb ⊢
   obtain ⟨vs,rfl,h⟩:=h
   exact ⟨vs,rfl,qb5 hG hM cs vs hb h⟩
 | .sl n es, x, hb, h => by
   simp only [VR,AV.ren,AV.bd] at h hb ⊢
   obtain ⟨a,cap,us,h1,h2,rfl⟩:=h
   exact ⟨a,cap,us,qb5 hG hM es us hb h1,qj5 hM h2,rfl⟩
 | .lit n es, x, hb, h => by
   simp only [VR,AV.ren,AV.bd] at h hb ⊢
   obtain ⟨a,us,h1,h2,rfl⟩:=h
   exact ⟨a,us,qb5 hG hM es us hb h1,qj5 hM h2,rfl⟩
 | .ptr i off, x, hb, h => by
   simp only [VR,AV.ren,AV.bd,decide_eq_true_eq] at h hb ⊢
   obtain ⟨g,hg,rfl⟩:=h
   obtain ⟨g',hg',hc⟩:=hG i g hb hg
   exact ⟨g',hg',by rw [(qbo hc).1]⟩
 | .row i len, x, hb, h => by
   simp only [VR,AV.ren,AV.bd,decide_eq_true_eq] at h hb ⊢
   obtain ⟨g,hg,rfl⟩:=h
   obtain ⟨g',hg',hc⟩:=hG i g hb hg
   exact ⟨g',hg',by rw [(qbo hc).1,(qbo hc).2.1]⟩
 | .eptr n es k off, x, hb, h => by
   simp only [VR,AV.ren,AV.bd] at h hb ⊢
   obtain ⟨a,cap,us,h1,h2,h3,rfl⟩:=h
   exact ⟨a,cap,us,qb5 hG hM es us hb h1,qj5 hM h2,h3,rfl⟩
 | .rptr i n k off, x, hb, h => by
   simp only [VR,AV.ren,AV.bd,decide_eq_true_eq] at h hb ⊢
   obtain ⟨g,hg,rfl⟩:=h
   obtain ⟨g',hg',hc⟩:=hG i g hb hg
   exact ⟨g',hg',by rw [(qbo hc).1]⟩
 | .vw i off len cap, x, hb, h => by
   simp only [VR,AV.ren,AV.bd,decide_eq_true_eq] at h hb ⊢
   obtain ⟨g,hg,rfl⟩:=h
   obtain ⟨g',hg',hc⟩:=hG i g hb hg
   exact ⟨g',hg',by rw [(qbo hc).1]⟩
 | .fn f first caps, x, hb, h => by
   simp only [VR,AV.ren,AV.bd,Bool.and_eq_true] at h hb ⊢
   obtain ⟨xs,ys,h1,h2,rfl⟩:=h
   exact ⟨xs,ys,qb5 hG hM first xs hb.1 h1,qb5 hG hM caps ys hb.2 h2,rfl⟩
 | .opq i, x, hb, h => by
   simp only [VR,AV.ren,AV.bd,decide_eq_true_eq] at h hb ⊢
   obtain ⟨g,hg,rfl,h1⟩:=h
   obtain ⟨g',hg',hc⟩:=hG i g hb hg
   exact ⟨g',hg',by rw [(qbo hc).2.2],by rw [(qbo hc).2.2];exact h1⟩
 | .iface t v, x, hb, h => by
   simp only [VR,AV.ren,AV.bd] at h hb ⊢
   obtain ⟨y,h1,rfl⟩:=h
   exact ⟨y,qkf hG hM v y hb h1,rfl⟩
theorem qb5 {σ:Nat->Nat} {m:Nat} (hG:∀ i g,i < m->G[i]? = some g->∃ g',G'[σ i]? = some g'∧g'.core = g.core)
 (hM:∀ b o,M b o->M' b o∧w'.cell? ⟨b,o,none⟩ = w.cell? ⟨b,o,none⟩):∀ (vs:List AV) (xs:List Value),AV.bds m vs = true->VRs w M G vs xs->VRs w' M' G' (AV.rens σ vs) xs
 | [],xs,_,h=>by simpa only [VRs,AV.rens] using h
 | c :: cs, xs, hb, h => by
   simp only [VRs,AV.rens,AV.bds,Bool.and_eq_true] at h hb ⊢
   obtain ⟨v,r,rfl,h1,h2⟩:=h
   exact ⟨v,r,rfl,qkf hG hM c v hb.1 h1,qb5 hG hM cs r hb.2 h2⟩
end

mutual
theorem q7b:∀ (v:AV) (x:Value),VR w M G v x->v.bd G.length = true
 | .bool _,x,h=>rfl
 | .int _ _,x,h=>rfl
 | .str _,x,h=>rfl
 | .nilp,x,h=>rfl
 | .nilf,x,h=>rfl
 | .nili,x,h=>rfl
 | .nils,x,h=>rfl
 | .nilm,x,h=>rfl
 | .junk,x,h=>rfl
 | .agg cs, x, h => by
   simp only [VR,AV.bd] at h ⊢
   obtain ⟨vs,rfl,h⟩:=h
   exact qcz cs vs h
 | .tup cs, x, h => by
   simp only [VR,AV.bd] at h ⊢
   obtain ⟨vs,rfl,h⟩:=h
   exact qcz cs vs h
 | .sl n es, x, h => by
   simp only [VR,AV.bd] at h ⊢
   obtain ⟨a,cap,us,h1,h2,rfl⟩:=h
   exact qcz es us h1
 | .lit n es, x, h => by
   simp only [VR,AV.bd] at h ⊢
   obtain ⟨a,us,h1,h2,rfl⟩:=h
   exact qcz es us h1
 | .ptr i off, x, h => by
   simp only [VR,AV.bd,decide_eq_true_eq] at h ⊢
   obtain ⟨g,hg,rfl⟩:=h
   exact (List.getElem?_eq_some_iff.1 hg).1
 | .row i len, x, h => by
   simp only [VR,AV.bd,decide_eq_true_eq] at h ⊢
   obtain ⟨g,hg,rfl⟩:=h
   exact (List.getElem?_eq_some_iff.1 hg).1
 | .eptr n es k off, x, h => by
   simp only [VR,AV.bd] at h ⊢
   obtain ⟨a,cap,us,h1,h2,h3,rfl⟩:=h
   exact qcz es us h1
 | .rptr i n k off, x, h => by
   simp only [VR,AV.bd,decide_eq_true_eq] at h ⊢
   obtain ⟨g,hg,rfl⟩:=h
   exact (List.getElem?_eq_some_iff.1 hg).1
 | .vw i off len cap, x, h => by
   simp only [VR,AV.bd,decide_eq_true_eq] at h ⊢
   obtain ⟨g,hg,rfl⟩:=h
   exact (List.getElem?_eq_some_iff.1 hg).1
 | .fn f first caps, x, h => by
   simp only [VR,AV.bd,Bool.and_eq_true] at h ⊢
   obtain ⟨xs,ys,h1,h2,rfl⟩:=h
   exact ⟨qcz first xs h1,qcz caps ys h2⟩
 | .opq i, x, h => by
   simp only [VR,AV.bd,decide_eq_true_eq] at h ⊢
   obtain ⟨g,hg,rfl,_⟩:=h
   exact (List.getElem?_eq_some_iff.1 hg).1
 | .iface t v, x, h => by
   simp only [VR,AV.bd] at h ⊢
   obtain ⟨y,h1,rfl⟩:=h
   exact q7b v y h1
theorem qcz:∀ (vs:List AV) (xs:List Value),VRs w M G vs xs->AV.bds G.length vs = true
 | [],xs,h=>rfl
 | c :: cs, xs, h => by
   simp only [VRs,AV.bds,Bool.and_eq_true] at h ⊢
   obtain ⟨v,r,rfl,h1,h2⟩:=h
   exact ⟨q7b c v h1,qcz cs r h2⟩
end
end

mutual
theorem qki {m m':Nat} (hm:m≤m'):∀ (v:AV),v.bd m = true->v.bd m' = true
 | .bool _,h=>rfl
 | .int _ _,h=>rfl
 | .str _,h=>rfl
 | .nilp,h=>rfl
 | .nilf,h=>rfl
 | .nili,h=>rfl
 | .nils,h=>rfl
 | .nilm,h=>rfl
 | .junk,h=>rfl
 | .agg cs,h=>qcj hm cs h
 | .tup cs,h=>qcj hm cs h
 | .sl n es,h=>qcj hm es h
 | .lit n es,h=>qcj hm es h
 | .ptr i off,h=>by simp only [AV.bd,decide_eq_true_eq] at h ⊢;omega
 | .row i len,h=>by simp only [AV.bd,decide_eq_true_eq] at h ⊢;omega
 | .eptr n es k off,h=>qcj hm es h
 | .rptr i n k off,h=>by simp only [AV.bd,decide_eq_true_eq] at h ⊢;omega
 | .vw i off len cap,h=>by simp only [AV.bd,decide_eq_true_eq] at h ⊢;omega
 | .fn f first caps, h => by
   simp only [AV.bd,Bool.and_eq_true] at h ⊢
   exact ⟨qcj hm first h.1,qcj hm caps h.2⟩
 | .opq i,h=>by simp only [AV.bd,decide_eq_true_eq] at h ⊢;omega
 | .iface t v,h=>qki hm v h
theorem qcj {m m':Nat} (hm:m≤m'):∀ (vs:List AV),AV.bds m vs = true->AV.bds m' vs = true
 | [],h=>rfl
 | c :: cs, h => by
   simp only [AV.bds,Bool.and_eq_true] at h ⊢
   exact ⟨qki hm c h.1,qcj hm cs h.2⟩
end

mutual
theorem ren_same {σ:Nat->Nat} {m:Nat} (hσ:∀ i,i < m->σ i = i):∀ (v:AV),v.bd m = true->v.ren σ = v
 | .bool _,h=>rfl
 | .int _ _,h=>rfl
 | .str _,h=>rfl
 | .nilp,h=>rfl
 | .nilf,h=>rfl
 | .nili,h=>rfl
 | .nils,h=>rfl
 | .nilm,h=>rfl
 | .junk,h=>rfl
 | .agg cs,h=>by simp only [AV.ren];rw [ql hσ cs h]
 | .tup cs,h=>by simp only [AV.ren];rw [ql hσ cs h]
 | .sl n es,h=>by simp only [AV.ren];rw [ql hσ es h]
 | .lit n es,h=>by simp only [AV.ren];rw [ql hσ es h]
 | .ptr i off,h=>by simp only [AV.bd,decide_eq_true_eq] at h;simp only [AV.ren];rw [hσ i h]
 | .row i len,h=>by simp only [AV.bd,decide_eq_true_eq] at h;simp only [AV.ren];rw [hσ i h]
 | .eptr n es k off,h=>by simp only [AV.ren];rw [ql hσ es h]
 | .rptr i n k off,h=>by simp only [AV.bd,decide_eq_true_eq] at h;simp only [AV.ren];rw [hσ i h]
 | .vw i off len cap,h=>by simp only [AV.bd,decide_eq_true_eq] at h;simp only [AV.ren];rw [hσ i h]
 | .fn f first caps, h => by
   simp only [AV.bd,Bool.and_eq_true] at h
   simp only [AV.ren];rw [ql hσ first h.1,ql hσ caps h.2]
 | .opq i,h=>by simp only [AV.bd,decide_eq_true_eq] at h;simp only [AV.ren];rw [hσ i h]
 | .iface t v,h=>by simp only [AV.ren];rw [ren_same hσ v h]
theorem ql {σ:Nat->Nat} {m:Nat} (hσ:∀ i,i < m->σ i = i):∀ (vs:List AV),AV.bds m vs = true->AV.rens σ vs = vs
 | [],h=>rfl
 | c :: cs, h => by
   simp only [AV.bds,Bool.and_eq_true] at h
   simp only [AV.rens];rw [ren_same hσ c h.1,ql hσ cs h.2]
end

theorem qjs {w w':World} {M M':Nat->Nat->Prop} {G G':List Gh} (hG:∀ (i:Nat) (g:Gh),G[i]? = some g->∃ g':Gh,G'[i]? = some g'∧g'.core = g.core)
 (hM:∀ b o,M b o->M' b o∧w'.cell? ⟨b,o,none⟩ = w.cell? ⟨b,o,none⟩) {v:AV} {x:Value} (h:VR w M G v x):VR w' M' G' v x:=by
 have hb:=q7b v x h
 have:=qkf (σ:=id) (m:=G.length) (fun i g _ hi=>hG i g hi) hM v x hb h
 rwa [ren_same (σ:=id) (fun _ _=>rfl) v hb] at this
theorem qbj {w w':World} {M M':Nat->Nat->Prop} {G G':List Gh} (hG:∀ (i:Nat) (g:Gh),G[i]? = some g->∃ g':Gh,G'[i]? = some g'∧g'.core = g.core)
 (hM:∀ b o,M b o->M' b o∧w'.cell? ⟨b,o,none⟩ = w.cell? ⟨b,o,none⟩) {v:List AV} {x:List Value} (h:VRs w M G v x):VRs w' M' G' v x:=by
 have hb:=qcz v x h
 have:=qb5 (σ:=id) (m:=G.length) (fun i g _ hi=>hG i g hi) hM v x hb h
 rwa [ql (σ:=id) (fun _ _=>rfl) v hb] at this
end Go.V
