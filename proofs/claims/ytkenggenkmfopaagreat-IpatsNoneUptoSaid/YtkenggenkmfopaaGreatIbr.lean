/- A text of this proof. -/
import Derived.Test.YtkenggenkmfopaaGreatIaq
import Derived.MapKept
set_option linter.unusedVariables false
set_option linter.unusedSimpArgs false

/-
 The value logic: maps whose keys are integers.
-/
namespace Go.V
open Go Go.RowKit

def qbf7(w:World)(M:Nat->Nat->Prop):List (Int×AV)->List MapEntry->Prop
 | [],[]=>True
 | (k,v)::l,e::es=>(e.key=.int .i64 k∧VR w M [] v e.val)∧qbf7 w M l es
 | _,_=>False
def mapR(l:List (Int×AV)):World->(Nat->Nat->Prop)->Gh->Prop:=fun w M g =>
 g.val=.map (some g.blk)∧(∀b,g.fp b↔b=g.blk)∧(∀o,¬M g.blk o)∧∃(es:Array MapEntry) (clock:Nat),w.heap[g.blk]?=some (.map es clock)∧qbf7 w M l es.toList
abbrev mapE(l:List (Int×AV)):Ent:=.cus (mapR l)
section
variable {w w':World} {M M':Nat->Nat->Prop}
theorem qpb(hM:∀b o,M b o->M' b o∧w'.cell? ⟨b,o,none⟩=w.cell? ⟨b,o,none⟩):∀{l:List (Int×AV)} {es:List MapEntry},qbf7 w M l es->qbf7 w' M' l es
 | [],[],_=>trivial
 | (k,v)::l,e::es,⟨⟨h1,h2⟩,h3⟩=>⟨⟨h1,qsx (G:=[]) (G':=[]) (fun i g h=>by simp at h) hM h2⟩,qpb hM h3⟩
 | [],e::es,h=>h.elim
 | (k,v)::l,[],h=>h.elim
theorem q9q{l:List (Int×AV)}{g:Gh}(hfp:∀b,g.fp b↔b=g.blk):Stab (mapR l) g:=by
 rintro w M w' M' ha ⟨h1,h2,h3,es,clock,h4,h5⟩
 refine⟨h1,h2,fun o hm=>h3 o (ha.fresh _ o ((hfp _).2 rfl) hm),es,clock,?_,qpb ha.le h5⟩
 rw[ha.same _ ((hfp _).2 rfl)];exact h4
end
section
variable {P:Program} {H:List Ent} {Q:List Ent->VO->Prop} {t kt et:TypeId} {l:List (Int×AV)} {i:Nat} {k:Int} {v:AV}
theorem qbp4(hq:Q (H++[mapE []]) (.val (.opq H.length))):VApp P H (mkV (.make t)) [] Q:=by
 intro w M G x vs hst _ hv
 have hv:vs=[]:=hv
 subst hv
 let g:Gh:={ blk:=w.heap.size,val:=.map (some w.heap.size),fp:=fun b=>b=w.heap.size }
 have hlen:G.length=H.length:=hst.len
 have hold:∀b,b<w.heap.size->(w.alloc (.map #[] 0)).heap[b]?=w.heap[b]?:=fun b hb=>Below.heap_alloc _ _ _ hb
 have hnew:(w.alloc (.map #[] 0)).heap[w.heap.size]?=some (.map #[] 0):=by
  show(w.heap.push (.map #[] 0))[w.heap.size]?=_
  simp
 refine⟨.map (some w.heap.size),w.alloc (.map #[] 0),rfl,M,G++[g],_,.opq H.length,hq,?_,?_,?_⟩
 ·exact qgh hst rfl rfl rfl (by simp) hold (fun _ _ h=>h) (fun _ _ h=>.inl h) (fun b hb=>by
   have hb:b=w.heap.size:=hb
   omega)
 ·refine qhg hst (by simp) hold (fun _ _ h=>h) (fun _ _ h=>.inl h) (fun b o h=>by have:=hst.Mlt b o h;simp;omega) (fun b hb=>by
   have hb:b=w.heap.size:=hb
   subst hb;simp) ?_
  refine⟨⟨rfl,fun b=>Iff.rfl,fun o hm=>by have:=hst.Mlt _ o hm;simp[g] at this,#[],0,hnew,trivial⟩,q9q fun b=>Iff.rfl⟩
 ·refine⟨g,?_,rfl,rfl⟩
  rw[←hlen,getElem?_snoc];simp
end
end Go.V
