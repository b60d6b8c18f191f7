/- Texts of this proof, joined. -/
import Derived.Test.YtgglaabljlhliaaGreatMbt
set_option linter.unusedVariables false
set_option linter.unusedSimpArgs false

/-
 The value logic, part le: regions that draw, where several operations lay new entries: a family of orders.
-/
namespace Go.V
open Go Go.RowKit

section
variable {P:Program} {fr:Option Nat} {n m:Nat} {Q:VE->AF->List Ent->Prop} {ops:Array Oper}

structure GoodT (P:Program) (Q:VE->AF->List Ent->Prop) (ops:Array Oper) (gl:List GI) (kp:Nat->Bool) (listed:Array Bool) (af:AF) (H:List Ent) (f:List (Nat×EO)):Prop where
 g:∀ p∈f,gl[p.1]? = some p.2.g
 ok:f.Pairwise fun p q=>(p.1 < q.1->((qba ops.toList []).getD q.1 0).testBit p.1 = false)->(kp p.1 && kp q.1) = true∨(qd7 p.2.g q.2.g = true∧okFP p.2.fp q.2.fp = true)
 nd:f.Pairwise fun p q=>p.1≠q.1
 li:∀ i,i < ops.size->(listed.getD i true = false ↔ ∃ g,(i,g)∈f)
 tr:∃ afE E,Q .nrm afE E∧Tr P f af H afE E
def qly (kp:Nat->Bool) (f:List (Nat×EO)):List Nat:=(f.map (·.1)).filter kp
theorem qbai {kp:Nat->Bool} {l1 l2:List (Nat×EO)} {i:Nat} {g:EO} (h:kp i = false):qly kp (l1 ++ (i,g) :: l2) = qly kp (l1 ++ l2):=by
 unfold qly
 simp [List.filter_cons,h]
theorem q7x {kp:Nat->Bool} {l1 l2:List (Nat×EO)} {i:Nat} {g:EO} {π:List Nat} (h:kp i = true) (hk:qly kp (l1 ++ (i,g) :: l2) = i :: π) (hn:∀ q∈l1,q.1≠i):(∀ q∈l1,kp q.1 = false)∧qly kp (l1 ++ l2) = π:=by
 unfold qly at *
 simp only [List.map_append,List.map_cons,List.filter_append,List.filter_cons,h,if_true] at hk ⊢
 cases hf:(l1.map (·.1)).filter kp with
 | nil =>
   rw [hf] at hk
   simp only [List.nil_append,List.cons.injEq,true_and] at hk ⊢
   refine ⟨fun q hq=>?_,hk⟩
   cases hkq:kp q.1 with
   | false=>rfl
   | true =>
     have:q.1∈(l1.map (·.1)).filter kp:=List.mem_filter.2 ⟨List.mem_map.2 ⟨q,hq,rfl⟩,hkq⟩
     rw [hf] at this;cases this
 | cons a r =>
   rw [hf] at hk
   simp only [List.cons_append,List.cons.injEq] at hk
   have:a∈(l1.map (·.1)).filter kp:=by rw [hf];simp
   obtain ⟨q,hq,he⟩:=List.mem_map.1 (List.mem_filter.1 this).1
   exact absurd (he.trans hk.1) (hn q hq)

theorem qyv {gl:List GI} {kp:Nat->Bool} (hcl:cL P ops n ops.toList = some gl) (hok:qdu (qba ops.toList []) gl 0 ops.toList gl = true) (hnc:∀ (i:Nat) (g:GI),gl[i]? = some g->qeg g.i = true∨∃ y,∀ k,kp k = true->k≠y->k < i∧((qba ops.toList []).getD i 0).testBit k = true) {S:Exit->Act->World->Prop} :
 ∀ (fuel : Nat) (F : List (Nat × EO) → Prop) (ks : List Nat) (listed : Array Bool) (af : AF) (H : List Ent) (w : World) (M : Nat → Nat → Prop) (G : List Gh) (a : Act),
   (∀ f,F f->f.length≤fuel)->(∀ f,F f->GoodT P Q ops gl kp listed af H f)->ks.Pairwise (· < ·)->(∀ i,i∈ks ↔ i < ops.size∧kp i = true∧listed.getD i true = false) →
   (∀ π:List Nat,π.Perm ks->(π.Pairwise fun a b=>b < a->((qba ops.toList []).getD a 0).testBit b = false)->∃ f,F f∧qly kp f = π)->listed.size = ops.size →
   (∀ i j,i < ops.size->listed.getD i true = true->((qba ops.toList []).getD i 0).testBit j = true->j < i->listed.getD j true = true) →
   St w M G H->RelF w M G n af a->(∀ e a' w',VPost Q n m w M G e a' w'->S e a' w')->wpAnyIn (fw fr) 0 P .any ops S fuel listed a w:=by
 obtain ⟨hlen,hcget⟩:=qjc hcl
 obtain ⟨_,hdget⟩:=qc3 hok
 have hone:∀ (i:Nat) (o:Oper) (g:GI),ops[i]? = some o->gl[i]? = some g->qb7 (qba ops.toList []) gl i o g = true:=fun i o g ho hg=>by
  obtain ⟨g',h1,h2⟩:=hdget i o (by simpa using ho)
  rw [hg] at h1
  simp only [Option.some.injEq] at h1;subst h1
  simpa using h2
 have hfin:∀ {w:World} {M:Nat->Nat->Prop} {G:List Gh} {af:AF} {H:List Ent} {a:Act} {afE:AF} {HE:List Ent},Q .nrm afE HE->St w M G H->RelF w M G n af a->Tr P [] af H afE HE->VPost Q n m w M G .normal a w:=by
  intro w M G af H a afE HE hQ hst hr ht
  obtain ⟨⟨he1,he2⟩,rfl⟩:=ht
  exact ⟨.nrm,afE,M,G,H,hQ,rfl,ExtM.refl,hst,⟨hr.size,by rw [← he1];exact hr.defers,fun t=>by rw [← he2 t];exact hr.rd t⟩⟩
 -- something is ready as long as something is left
 have hready:∀ (listed:Array Bool),listed.size = ops.size->∀ i,i < ops.size->listed.getD i true = false->Region.ready .any ops listed≠[]:=by
  intro listed hsz i
  induction i using Nat.strongRecOn with
  | _ i ih =>
    intro hi hl hnil
    have hio:ops[i]? = some ops[i]:=Array.getElem?_eq_getElem hi
    obtain ⟨g,hg,_⟩:=hdget i ops[i] (by simp)
    by_cases hall:∀ e∈ops[i].after,Region.binds .any e = true->listed.getD e.on false = true
    ·have:i∈Region.ready .any ops listed:=mem_ready.2 ⟨hl,ops[i],hio,fun e he hb=>hall e he hb⟩
     rw [hnil] at this;cases this
    ·simp only [Classical.not_forall] at hall
     obtain ⟨e,he,hb,hne⟩:=hall
     have hd:=hone i _ g hio hg
     simp only [qb7,Bool.and_eq_true,List.all_eq_true] at hd
     have hlt:=hd.1 e (by simpa using he)
     simp only [hb,Bool.not_true,Bool.false_or,decide_eq_true_eq] at hlt
     refine ih e.on hlt (by omega) ?_ hnil
     have:e.on < listed.size:=by omega
     simp [this] at hne ⊢
     exact hne
 intro fuel
 induction fuel with
 | zero =>
   intro F ks listed af H w M G a hf hF hks hkm hcov hsz hD hst hr hS
   obtain ⟨f0,h0,_⟩:=hcov ks (List.Perm.refl _) (hks.imp fun {a b} h h'=>by omega)
   have hf0:f0 = []:=List.eq_nil_of_length_eq_zero (by have:=hf f0 h0;omega)
   subst hf0
   obtain ⟨afE,E,hQ,ht⟩:=(hF _ h0).tr
   refine ⟨?_,hS _ _ _ (hfin hQ hst hr ht)⟩
   cases hrd:Region.ready .any ops listed with
   | nil=>rfl
   | cons i r =>
     have hi:i∈Region.ready .any ops listed:=by rw [hrd];simp
     obtain ⟨h1,o,ho,_⟩:=mem_ready.1 hi
     have hlt:=(Array.getElem?_eq_some_iff.1 ho).1
     obtain ⟨g,hg⟩:=((hF _ h0).li i hlt).1 h1
     cases hg
 | succ fuel ih =>
   intro F ks listed af H w M G a hf hF hks hkm hcov hsz hD hst hr hS
   have hsize:∀ {i:Nat} {g:GI},gl[i]? = some g->i < ops.size:=fun {i g} h=>by
    have:=(List.getElem?_eq_some_iff.1 h).1
    rw [← Array.length_toList,hlen];exact this
   refine ⟨fun hnil=>?_,fun i hi=>?_⟩
   ·obtain ⟨f0,h0,_⟩:=hcov ks (List.Perm.refl _) (hks.imp fun {a b} h h'=>by omega)
    have G0:=hF _ h0
    cases f0 with
    | nil =>
      obtain ⟨afE,E,hQ,ht⟩:=G0.tr
      exact hS _ _ _ (hfin hQ hst hr ht)
    | cons p r =>
      have hp:=hsize (G0.g p (by simp))
      exact absurd hnil (hready listed hsz p.1 hp ((G0.li p.1 hp).2 ⟨p.2,by simp⟩))
   ·obtain ⟨h1,o,ho,hall⟩:=mem_ready.1 hi
    have hlt:=(Array.getElem?_eq_some_iff.1 ho).1
    obtain ⟨gi,hgi,hgc⟩:=hcget i o (by simpa using ho)
    have hanc:∀ j,j < i->((qba ops.toList []).getD i 0).testBit j = true->listed.getD j true = true:=fun j hj hb=>by
     have hd:=hone i o gi ho hgi
     simp only [qb7,Bool.and_eq_true,List.all_eq_true,List.mem_range] at hd
     have:=hd.2 j hj
     split at this
     ·rename_i gj hgj
      rw [if_pos hb] at this
      obtain ⟨e,he,hbe⟩:=List.any_eq_true.1 this
      simp only [Bool.and_eq_true,Bool.or_eq_true,beq_iff_eq,decide_eq_true_eq] at hbe
      have hon:=hall e (by simpa using he) hbe.1
      have helt:=hd.1 e he
      simp only [hbe.1,Bool.not_true,Bool.false_or,decide_eq_true_eq] at helt
      have hon':listed.getD e.on true = true:=by
       have:e.on < listed.size:=by omega
       simp [this] at hon ⊢
       exact hon
      rcases hbe.2 with rfl | ⟨hje,hbit⟩
      ·exact hon'
      ·exact hD e.on j (by omega) hon' hbit hje
     ·cases this
    have hne:∀ {l1 l2:List (Nat×EO)} {g:EO},F (l1 ++ (i,g) :: l2)->(∀ q∈l1 ++ l2,q.1≠i):=fun {l1 l2 g} h q hq=>by
     have hn:=(hF _ h).nd
     rw [List.pairwise_append] at hn
     rcases List.mem_append.1 hq with hq | hq
     ·exact hn.2.2 q hq (i,g) (by simp)
     ·exact fun e=>(List.pairwise_cons.1 hn.2.1).1 q hq e.symm
    have stepT:∀ (l1 l2:List (Nat×EO)) (g:EO),F (l1 ++ (i,g) :: l2)->(∀ q∈l1,(kp q.1 && kp i) = false)->g.g = gi∧∃ v H1 afE E,Q .nrm afE E∧Psi P g af H v H1∧Tr P (l1 ++ l2) (put af g.g.d v) H1 afE E:=by
     intro l1 l2 g hFf hno
     have G0:=hF _ hFf
     have hg:=G0.g (i,g) (by simp)
     simp only at hg
     rw [hgi] at hg
     obtain ⟨afE,E,hQ,ht⟩:=G0.tr
     have hfr:=qf6 (p:=(i,g)) (r:=l2) (l:=l1) (fun q hq=>by
      have hq1:=hsize (G0.g q (by simp [hq]))
      have hun:=(G0.li q.1 hq1).2 ⟨q.2,by simp [hq]⟩
      have:=(List.pairwise_append.1 G0.ok).2.2 q hq (i,g) (by simp) (fun hlt'=>by
       cases hb:((qba ops.toList []).getD i 0).testBit q.1 with
       | false=>rfl
       | true=>rw [hanc q.1 hlt' hb] at hun;cases hun)
      rcases this with h | h
      ·have h':=hno q hq
       simp only at h
       rw [h] at h';cases h'
      ·exact h) ht
     obtain ⟨v,H1,hp,htr⟩:=hfr
     exact ⟨(Option.some.inj hg).symm,v,H1,afE,E,hQ,hp,htr⟩
    -- one that begins with it
    have hpick:∀ π:List Nat,π.Perm (ks.erase i)->(π.Pairwise fun a b=>b < a->((qba ops.toList []).getD a 0).testBit b = false)->∃ l1 l2 g,F (l1 ++ (i,g) :: l2)∧(∀ q∈l1,(kp q.1 && kp i) = false)∧qly kp (l1 ++ l2) = π:=by
     intro π hp hr'
     have hsplit:∀ f,F f->∃ l1 l2 g,f = l1 ++ (i,g) :: l2:=fun f h=>by
      obtain ⟨g,hg⟩:=((hF _ h).li i hlt).1 h1
      obtain ⟨l1,l2,e⟩:=List.append_of_mem hg
      exact ⟨l1,l2,g,e⟩
     cases hk:kp i with
     | false =>
       have hni:i ∉ ks:=fun h=>by have:=(hkm i).1 h;rw [hk] at this;cases this.2.1
       rw [List.erase_of_not_mem hni] at hp
       obtain ⟨f,hf1,hf2⟩:=hcov π hp hr'
       obtain ⟨l1,l2,g,rfl⟩:=hsplit f hf1
       exact ⟨l1,l2,g,hf1,fun q _=>by simp,by rw [← qbai hk];exact hf2⟩
     | true =>
       have hin:i∈ks:=(hkm i).2 ⟨hlt,hk,h1⟩
       obtain ⟨f,hf1,hf2⟩:=hcov (i :: π) ((List.Perm.cons i hp).trans (List.perm_cons_erase hin).symm) (by
        rw [List.pairwise_cons]
        refine ⟨fun b hb hbi=>?_,hr'⟩
        have hbk:b∈ks:=List.mem_of_mem_erase (hp.mem_iff.1 hb)
        have hbl:=((hkm b).1 hbk).2.2
        cases hbt:((qba ops.toList []).getD i 0).testBit b with
        | false=>rfl
        | true=>rw [hanc b hbi hbt] at hbl;cases hbl)
       obtain ⟨l1,l2,g,rfl⟩:=hsplit f hf1
       obtain ⟨k1,k2⟩:=q7x hk hf2 fun q hq=>hne hf1 q (by simp [hq])
       exact ⟨l1,l2,g,hf1,fun q hq=>by rw [k1 q hq];rfl,k2⟩
    have hks':(ks.erase i).Pairwise (· < ·):=hks.sublist List.erase_sublist
    obtain ⟨l1,l2,g,hf0,hno0,hkt0⟩:=hpick (ks.erase i) (List.Perm.refl _) (hks'.imp fun {a b} h h'=>by omega)
    obtain ⟨hgg,v,H1,afE0,E0,hQ0,hpsi,htr0⟩:=stepT l1 l2 g hf0 hno0
    refine qeb ho (by rw [hgg];exact hgc) hst hr hpsi fun a' w' M' G' k1 k2 k3=>?_
    rw [hgg] at k3
    have hnd:ks.Nodup:=hks.imp fun {a b} h=>by omega
    have hlone:qeg gi.i = true∨∀ π:List Nat,π.Perm (ks.erase i)->π = ks.erase i:=by
     rcases hnc i gi hgi with h | ⟨y,hy⟩
     ·exact .inl h
     ·refine .inr fun π hp=>?_
      have hall:∀ b∈ks.erase i,b = y:=fun b hb=>by
       have hbk:=(hkm b).1 (List.mem_of_mem_erase hb)
       by_cases hby:b = y
       ·exact hby
       ·obtain ⟨q1,q2⟩:=hy b hbk.2.1 hby
        rw [hanc b q1 q2] at hbk
        cases hbk.2.2
      have hrep:∀ l:List Nat,(∀ b∈l,b = y)->l = List.replicate l.length y:=fun l h=>List.eq_replicate_iff.2 ⟨rfl,h⟩
      rw [hrep π fun b hb=>hall b (hp.mem_iff.1 hb),hrep _ hall,hp.length_eq]
    refine ih (fun f'=>∃ l1' l2' g',F (l1' ++ (i,g') :: l2')∧(∀ q∈l1',(kp q.1 && kp i) = false)∧f' = l1' ++ l2'∧(qeg gi.i = true∨(l1' = l1∧l2' = l2∧g' = g))) (ks.erase i) (listed.setIfInBounds i true) _ H1 w' M' G' a' ?_ ?_ hks' ?_ ?_ (by simpa using hsz) ?_ k2 k3 fun e a'' w'' hp=>hS _ _ _ (hp.trans k1.toM)
    ·rintro f' ⟨m1,m2,g',hm,_,rfl,_⟩
     have:=hf _ hm
     simp at this ⊢;omega
    ·rintro f' ⟨m1,m2,g',hm,hno,rfl,hcs⟩
     have G0:=hF _ hm
     have hsl:(m1 ++ m2).Sublist (m1 ++ (i,g') :: m2):=(List.Sublist.refl _).append (List.sublist_cons_self _ _)
     obtain ⟨afE,E,hQ,htr⟩:∃ afE E,Q .nrm afE E∧Tr P (m1 ++ m2) (put af gi.d v) H1 afE E:=by
      rcases hcs with hcall | ⟨rfl,rfl,rfl⟩
      ·obtain ⟨hgg',v',H1',afE,E,hQ,hpsi',htr⟩:=stepT m1 m2 g' hm hno
       obtain ⟨rfl,rfl⟩:=q0w (e:=g') (e':=g) (hgg'.trans hgg.symm) (by rw [hgg'];exact hcall) hpsi' hpsi
       rw [hgg'] at htr
       exact ⟨afE,E,hQ,htr⟩
      ·exact ⟨afE0,E0,hQ0,by rw [hgg] at htr0;exact htr0⟩
     refine ⟨fun p hp=>G0.g p (hsl.subset hp),G0.ok.sublist hsl,G0.nd.sublist hsl,fun j hj=>?_,afE,E,hQ,htr⟩
     by_cases hji:i = j
     ·subst hji
      constructor
      ·intro hh
       have:i < listed.size:=by omega
       simp [this] at hh
      ·rintro ⟨g'',hg''⟩
       exact absurd rfl (hne hm _ hg'')
     ·rw [qp _ _ hji,G0.li j hj]
      constructor
      ·rintro ⟨g'',hg''⟩
       refine ⟨g'',?_⟩
       rcases List.mem_append.1 hg'' with hx | hx
       ·simp [hx]
       ·rcases List.mem_cons.1 hx with hx | hx
        ·simp only [Prod.mk.injEq] at hx;exact absurd hx.1.symm hji
        ·simp [hx]
      ·rintro ⟨g'',hg''⟩
       exact ⟨g'',hsl.subset hg''⟩
    ·intro j
     rw [hnd.mem_erase_iff,hkm j]
     by_cases hji:i = j
     ·subst hji
      simp [show i < listed.size by omega]
     ·rw [qp _ _ hji]
      exact ⟨fun h=>h.2,fun h=>⟨fun e=>hji e.symm,h⟩⟩
    ·intro π hp hr'
     rcases hlone with hcall | hone1
     ·obtain ⟨m1,m2,g',a1,a2,a3⟩:=hpick π hp hr'
      exact ⟨_,⟨m1,m2,g',a1,a2,rfl,.inl hcall⟩,a3⟩
     ·rw [hone1 π hp]
      exact ⟨_,⟨l1,l2,g,hf0,hno0,rfl,.inr ⟨rfl,rfl,rfl⟩⟩,hkt0⟩
    ·intro k j hk hlk hb hjk
     by_cases hik:i = k
     ·subst hik
      rw [qp _ _ (by omega)]
      exact hanc j hjk hb
     ·rw [qp _ _ hik] at hlk
      by_cases hij:i = j
      ·subst hij
       have:i < listed.size:=by omega
       simp [this]
      ·rw [qp _ _ hij]
       exact hD k j hk hlk hb hjk
end

def q71 (kp:Nat->Bool) (l:List (GI×List Nat)) (j i:Nat):Bool:=match l[j]?,l[i]? with
 | some a,some b=>!(kp j && kp i) && (!(qcy a.1.i && qcy b.1.i) && (!(qcv a.1.i || qcv b.1.i) && (decide (i < j) || b.2.any (fun k=>decide (k = j)))))
 | _,_=>false
def qkf (kp:Nat->Bool) (l:List (GI×List Nat)):List Nat->List Nat->List (GI×List Nat)
 | _,[]=>[]
 | pre, i :: r => match l[i]? with
   | some p=>(p.1,(List.range pre.length).filter fun k=>q71 kp l (pre.getD k 0) i) :: qkf kp l (pre ++ [i]) r
   | none=>[]
theorem qp9 (kp:Nat->Bool) (l:List (GI×List Nat)):∀ (o pre:List Nat),(∀ i∈o,i < l.length)->(qkf kp l pre o).length = o.length∧∀ (k i:Nat),o[k]? = some i->∃ p,l[i]? = some p∧(qkf kp l pre o)[k]? = some (p.1,(List.range (pre.length + k)).filter fun k'=>q71 kp l ((pre ++ o).getD k' 0) i)
 | [],pre,_=>⟨rfl,fun k i h=>by simp at h⟩
 | i :: r, pre, h => by
   have hi:=h i (by simp)
   have hp:l[i]? = some l[i]:=List.getElem?_eq_getElem hi
   obtain ⟨h1,h2⟩:=qp9 kp l r (pre ++ [i]) fun j hj=>h j (by simp [hj])
   rw [qkf,hp]
   refine ⟨by simp [h1],fun k j hk=>?_⟩
   cases k with
   | zero =>
     simp only [List.getElem?_cons_zero,Option.some.injEq] at hk
     subst hk
     refine ⟨_,hp,?_⟩
     simp only [List.getElem?_cons_zero,Option.some.injEq,Prod.mk.injEq,true_and,Nat.add_zero]
     refine List.filter_congr fun k hk=>?_
     rw [List.mem_range] at hk
     rw [List.getD_eq_getElem?_getD,List.getD_eq_getElem?_getD,List.getElem?_append_left hk]
   | succ k =>
     obtain ⟨p,q1,q2⟩:=h2 k j (by simpa using hk)
     refine ⟨p,q1,?_⟩
     simp only [List.getElem?_cons_succ]
     rw [q2]
     simp only [List.length_append,List.length_cons,List.length_nil,List.append_assoc,List.cons_append,List.nil_append]
     rw [show pre.length + (0 + 1) + k = pre.length + (k + 1) by omega]
def qbbb (kp:Nat->Bool) (l:List (GI×List Nat)):List Nat->Bool
 | []=>true
 | j :: r => (r.all fun i => !(decide (i < j)) || ((kp j && kp i) || (match l[j]?, l[i]? with
   | some a,some b=>qd7 a.1 b.1
   | _,_=>false))) && qbbb kp l r
theorem qvv {kp:Nat->Bool} {l:List (GI×List Nat)}:∀ {o:List Nat},qbbb kp l o = true->o.Pairwise fun j i=>i < j->(kp j && kp i) = true∨∀ a b,l[j]? = some a->l[i]? = some b->qd7 a.1 b.1 = true
 | [],_=>List.Pairwise.nil
 | j :: r, h => by
   rw [qbbb,Bool.and_eq_true] at h
   refine List.Pairwise.cons (fun i hi hlt=>?_) (qvv h.2)
   have:=List.all_eq_true.1 h.1 i hi
   rw [Bool.or_eq_true,Bool.or_eq_true] at this
   rcases this with h1 | h1 | h1
   ·simp [hlt] at h1
   ·exact .inl h1
   ·refine .inr fun a b ha hb=>?_
    rw [ha,hb] at h1;exact h1
def key3 (x1 x2 y i:Nat):Bool:=decide (i = x1) || (decide (i = x2) || decide (i = y))
def q0s (kp:Nat->Bool) (l:List (GI×List Nat)) (o ks:List Nat):Bool:=(o.all fun i=>decide (i < l.length)) && (((List.range l.length).all fun i=>o.any fun j=>decide (j = i)) && (decide o.Nodup && (qbbb kp l o && decide (o.filter kp = ks))))
def qyt (l:List (GI×List Nat)) (x:Nat) (g:GI) (us:List Nat):Bool:=match l[x]? with
 | some a=>!(qcy a.1.i && qcy g.i) && (!(qcv a.1.i || qcv g.i) && !(us.any (fun k=>decide (k = x))))
 | none=>false
def q2x (x1 x2:Nat) (l:List (GI×List Nat)):Nat->List (GI×List Nat)->Bool
 | _,[]=>true
 | i,(g,us) :: r=>(qeg g.i || (decide (x1 < i) && (decide (x2 < i) && (qyt l x1 g us && qyt l x2 g us)))) && q2x x1 x2 l (i + 1) r
theorem qq6 (x1 x2:Nat) (l:List (GI×List Nat)):∀ (r:List (GI×List Nat)) (k m:Nat) (p:GI×List Nat),q2x x1 x2 l k r = true->r[m]? = some p->qeg p.1.i = true∨(x1 < k + m∧x2 < k + m∧qyt l x1 p.1 p.2 = true∧qyt l x2 p.1 p.2 = true)
 | [],k,m,p,_,h=>by simp at h
 | (g, us) :: r, k, 0, p, hc, h => by
   simp only [List.getElem?_cons_zero,Option.some.injEq] at h
   subst h
   rw [q2x,Bool.and_eq_true] at hc
   have h1:=hc.1
   rw [Bool.or_eq_true,Bool.and_eq_true,Bool.and_eq_true,Bool.and_eq_true,decide_eq_true_eq,decide_eq_true_eq] at h1
   rcases h1 with h1 | ⟨h1,h2,h3,h4⟩
   ·exact .inl h1
   ·exact .inr ⟨h1,h2,h3,h4⟩
 | (g, us) :: r, k, m + 1, p, hc, h => by
   simp only [List.getElem?_cons_succ] at h
   rw [q2x,Bool.and_eq_true] at hc
   have:=qq6 x1 x2 l r (k + 1) m p hc.2 h
   rwa [Nat.add_assoc,Nat.add_comm 1 m] at this
def qbfi (x1 x2 y:Nat) (l:List (GI×List Nat)) (o1 o2 o3:List Nat):Bool:=decide (x1 < x2∧x2 < y∧y < l.length) && (q2x x1 x2 l 0 l && (q0s (key3 x1 x2 y) l o1 [x1,x2,y] && (q0s (key3 x1 x2 y) l o2 [y,x1,x2] && (q0s (key3 x1 x2 y) l o3 [x1,y,x2] && (match l[x1]?,l[x2]? with
 | some a,some b=>!(qcy a.1.i && qcy b.1.i) && (!(qcv a.1.i || qcv b.1.i) && !(b.2.any (fun k=>decide (k = x1))))
 | _,_=>false)))))
theorem q2a:∀ {o:List Nat} {es:List (Nat×EO)},o.length = es.length->(List.zipWith (fun i p=>(i,p.2)) o es).map (·.2) = es.map (·.2)
 | [],[],_=>rfl
 | [],_ :: _,h=>by simp at h
 | _ :: _,[],h=>by simp at h
 | i :: o, p :: es, h => by
   rw [List.zipWith_cons_cons,List.map_cons,List.map_cons,q2a (by simpa using h)]
theorem qnx:∀ {o:List Nat} {es:List (Nat×EO)},o.length = es.length->(List.zipWith (fun i p=>(i,p.2)) o es).map (·.1) = o
 | [],[],_=>rfl
 | [],_ :: _,h=>by simp at h
 | _ :: _,[],h=>by simp at h
 | i :: o, p :: es, h => by
   rw [List.zipWith_cons_cons,List.map_cons,qnx (by simpa using h)]

section
variable {P:Program} {fr:Option Nat} {n m:Nat} {Q:VE->AF->List Ent->Prop} {ops:Array Oper}

theorem qsp {gl:List GI} {l:List (GI×List Nat)} {kp:Nat->Bool} {o ks:List Nat} {af:AF} {H:List Ent} (hlen:gl.length = ops.size) (hall:qdu (qba ops.toList []) gl 0 ops.toList gl = true)
 (hl:l.length = gl.length) (hget:∀ (i:Nat) (g:GI),gl[i]? = some g->l[i]? = some (g,qd0 (qba ops.toList []) gl i g)) (ho:q0s kp l o ks = true) (h:runD P Q [] (qkf kp l [] o) af H) :
 ∃ f,GoodT P Q ops gl kp (Array.replicate ops.size false) af H f∧qly kp f = ks∧f.length = ops.size:=by
 simp only [q0s,Bool.and_eq_true,decide_eq_true_eq] at ho
 obtain ⟨h1,h2,hnd,hrev,hks⟩:=ho
 have h1:∀ i∈o,i < l.length:=fun i hi=>by simpa using List.all_eq_true.1 h1 i hi
 have h2:∀ i,i < l.length->i∈o:=fun i hi=>by
  have:=List.all_eq_true.1 h2 i (List.mem_range.2 hi)
  obtain ⟨j,hj,e⟩:=List.any_eq_true.1 this
  simp only [decide_eq_true_eq] at e
  subst e;exact hj
 obtain ⟨p1,p2⟩:=qp9 kp l o [] h1
 obtain ⟨es,afE,E,⟨f1,f2⟩,ht,hq⟩:=qkz h
 have hle:o.length = es.length:=by rw [f1,p1]
 have hone:=(qc3 hall).2
 -- what stands at place k
 have hat:∀ (k i:Nat) (p:Nat×EO),o[k]? = some i->es[k]? = some p->gl[i]? = some p.2.g∧(∃ af n,p.2.fp = fpI af n p.2.top p.2.g.i)∧∀ (k' j:Nat) (q:Nat×EO),k' < k->o[k']? = some j->es[k']? = some q->q71 kp l j i = true->okFP q.2.fp p.2.fp = true:=by
  intro k i p hk hp
  have hi:=h1 i (List.mem_of_getElem? hk)
  have hgi:gl[i]? = some gl[i]:=List.getElem?_eq_getElem (by omega)
  obtain ⟨p',q1,q2⟩:=p2 k i hk
  have hli:=hget i _ hgi
  rw [hli] at q1
  simp only [Option.some.injEq] at q1
  subst q1
  obtain ⟨e1,⟨us,e2,e3⟩,e4⟩:=f2 k p hp
  rw [q2] at e2
  simp only [Option.some.injEq,Prod.mk.injEq] at e2
  refine ⟨by rw [hgi,e2.1],e4,fun k' j q hlt hj hq' hpl=>?_⟩
  have:=e3 k' (by
   rw [← e2.2,List.mem_filter,List.mem_range]
   refine ⟨by simpa using hlt,?_⟩
   rw [List.nil_append,List.getD_eq_getElem?_getD,hj];exact hpl) (by rw [e1];simpa using hlt)
  rw [qox hq'] at this
  exact this
 have hfk:∀ (k:Nat) (p:Nat×EO),(List.zipWith (fun i p=>(i,p.2)) o es)[k]? = some p->∃ q,o[k]? = some p.1∧es[k]? = some q∧q.2 = p.2:=fun k p hp=>by
  rw [List.getElem?_zipWith] at hp
  cases hk:o[k]? with
  | none=>rw [hk] at hp;simp at hp
  | some i =>
    cases hq:es[k]? with
    | none=>rw [hk,hq] at hp;simp at hp
    | some q =>
      rw [hk,hq] at hp
      simp only [Option.some.injEq] at hp
      subst hp
      exact ⟨q,rfl,rfl,rfl⟩
 refine ⟨List.zipWith (fun i p=>(i,p.2)) o es,⟨fun p hp=>?_,?_,?_,fun i hi=>?_,afE,E,hq,qt0 (q2a hle).symm ht⟩,?_,?_⟩
 ·obtain ⟨k,hk⟩:=List.mem_iff_getElem?.1 hp
  obtain ⟨q,a1,a2,a3⟩:=hfk k p hk
  rw [← a3];exact (hat k _ q a1 a2).1
 ·rw [List.pairwise_iff_getElem]
  intro k' k hk' hk hlt
  obtain ⟨q,b1,b2,b3⟩:=hfk k' _ (List.getElem?_eq_getElem hk')
  obtain ⟨p,a1,a2,a3⟩:=hfk k _ (List.getElem?_eq_getElem hk)
  generalize (List.zipWith (fun i p=>(i,p.2)) o es)[k'] = Q' at *
  generalize (List.zipWith (fun i p=>(i,p.2)) o es)[k] = P' at *
  obtain ⟨j,ej⟩:=Q'
  obtain ⟨i,ei⟩:=P'
  simp only at b1 b3 a1 a3 ⊢
  subst b3 a3
  intro hbit
  obtain ⟨c1,⟨af1,n1,c2⟩,c3⟩:=hat k i p a1 a2
  obtain ⟨d1,⟨af2,n2,d2⟩,_⟩:=hat k' j q b1 b2
  cases hkp:kp j && kp i with
  | true=>exact .inl rfl
  | false =>
  refine .inr ?_
  have hli:=hget i _ c1
  have hlj:=hget j _ d1
  have hne:j≠i:=by
   intro e
   subst e
   have hk2:k < o.length:=(List.getElem?_eq_some_iff.1 a1).1
   have:=(List.getElem?_eq_some_iff.1 a1).2
   have h':=(List.getElem?_eq_some_iff.1 b1).2
   exact (List.pairwise_iff_getElem.1 hnd) k' k _ hk2 hlt (h'.trans this.symm)
  have hio:i < ops.size:=by have:=(List.getElem?_eq_some_iff.1 c1).1;omega
  have hap:qd7 q.2.g p.2.g = true:=by
   by_cases hji:j < i
   ·have hoi:ops.toList[i]? = some ops[i]:=by simp [hio]
    obtain ⟨g,g1,g2⟩:=hone i _ hoi
    rw [c1] at g1
    simp only [Option.some.injEq] at g1
    subst g1
    rw [Nat.zero_add] at g2
    simp only [qb7,Bool.and_eq_true,List.all_eq_true,List.mem_range] at g2
    have:=g2.2 j hji
    rw [d1] at this
    simp only at this
    rw [hbit hji,if_neg (by simp)] at this
    exact this
   ·have hpw:=qvv hrev
    have hk2:k < o.length:=(List.getElem?_eq_some_iff.1 a1).1
    have hk1:k' < o.length:=(List.getElem?_eq_some_iff.1 b1).1
    have:=List.pairwise_iff_getElem.1 hpw k' k hk1 hk2 hlt
    rw [(List.getElem?_eq_some_iff.1 a1).2,(List.getElem?_eq_some_iff.1 b1).2] at this
    rcases this (by omega) with h | h
    ·rw [hkp] at h;cases h
    ·exact h _ _ hlj hli
  refine ⟨hap,?_⟩
  by_cases hqq:(qcy q.2.g.i && qcy p.2.g.i) = true
  ·rw [c2,d2]
   simp only [Bool.and_eq_true] at hqq
   exact qh6 hqq.1 hqq.2
  by_cases hs1:qcv q.2.g.i = true
  ·rw [d2,qgd hs1];exact q0q _
  by_cases hs2:qcv p.2.g.i = true
  ·rw [c2,qgd hs2];exact q1b _
  have hqq':(qcy q.2.g.i && qcy p.2.g.i) = false:=by simpa using hqq
  have hs1':qcv q.2.g.i = false:=by simpa using hs1
  have hs2':qcv p.2.g.i = false:=by simpa using hs2
  refine c3 k' j q hlt b1 b2 ?_
  unfold q71
  rw [hli,hlj]
  simp only [hkp,hqq',hs1',hs2',Bool.not_false,Bool.or_false,Bool.true_and]
  by_cases hji:j < i
  ·have hm:j∈qd0 (qba ops.toList []) gl i p.2.g:=by
    unfold qd0
    rw [List.mem_filter]
    refine ⟨by simpa using hji,?_⟩
    rw [hbit hji,d1]
    simp only [hqq',hs1',hs2']
    rfl
   rw [List.any_eq_true.2 ⟨j,hm,by simp⟩,Bool.or_true]
  ·rw [decide_eq_true (show i < j by omega),Bool.true_or]
 ·have:=List.pairwise_map (f:=fun p:Nat×EO=>p.1) (R:=fun a b=>a≠b) (l:=List.zipWith (fun i p=>(i,p.2)) o es)
  rw [qnx hle] at this
  exact this.1 hnd
 ·have hmf:∀ i,i∈(List.zipWith (fun i p=>(i,p.2)) o es).map (·.1) ↔ i∈o:=fun i=>by rw [qnx hle]
  constructor
  ·intro _
   obtain ⟨p,hp,e⟩:=List.mem_map.1 ((hmf i).2 (h2 i (by omega)))
   exact ⟨p.2,by rw [← e];exact hp⟩
  ·intro _;simp [hi]
 ·unfold qly
  rw [qnx hle];exact hks
 ·have hsz:o.length = l.length:=by
   refine Nat.le_antisymm ?_ ?_
   ·have:=List.Nodup.length_le_of_subset hnd (l₂:=List.range l.length) (fun i hi=>List.mem_range.2 (h1 i hi))
    simpa using this
   ·have:=List.Nodup.length_le_of_subset (List.nodup_range (n:=l.length)) (l₂:=o) (fun i hi=>h2 i (List.mem_range.1 hi))
    simpa using this
  rw [List.length_zipWith];omega

theorem qbsc {id:Nat} {gl:List GI} {l:List (GI×List Nat)} {x1 x2 y:Nat} {o1 o2 o3:List Nat} {af:AF} {H:List Ent} (hm:P.follows .mixedOrders = true) (hc:cL P ops n ops.toList = some gl) (hok:qkc ops gl = some l) (hs:qbfi x1 x2 y l o1 o2 o3 = true)
 (hA:runD P Q [] (qkf (key3 x1 x2 y) l [] o1) af H) (hB:runD P Q [] (qkf (key3 x1 x2 y) l [] o2) af H) (hC:runD P Q [] (qkf (key3 x1 x2 y) l [] o3) af H):VW P fr n m (.region id ops true) Q af H:=by
 intro w M G a hst hr
 refine wpIn_region_any hm ?_
 unfold qkc at hok
 split at hok
 case isFalse=>cases hok
 case isTrue hall =>
 simp only [Option.some.injEq] at hok
 obtain ⟨hlen,_⟩:=qjc hc
 have hwl:=(qct (ms:=qba ops.toList []) (gl:=gl) (l:=gl) (k:=0))
 rw [hok] at hwl
 obtain ⟨hll,hlg⟩:=hwl
 have hN:gl.length = ops.size:=by rw [← hlen];simp
 have hget:∀ (i:Nat) (g:GI),gl[i]? = some g->l[i]? = some (g,qd0 (qba ops.toList []) gl i g):=fun i g h=>by
  have:=hlg i g h
  rwa [Nat.zero_add] at this
 simp only [qbfi,Bool.and_eq_true,decide_eq_true_eq] at hs
 obtain ⟨⟨s1,s2,s3⟩,hnc,k1,k2,k3,hx⟩:=hs
 obtain ⟨f1,g1,e1,z1⟩:=qsp hN hall hll hget k1 hA
 obtain ⟨f2,g2,e2,z2⟩:=qsp hN hall hll hget k2 hB
 obtain ⟨f3,g3,e3,z3⟩:=qsp hN hall hll hget k3 hC
 -- the second waits for the first
 have hbit:((qba ops.toList []).getD x2 0).testBit x1 = true:=by
  have q1:gl[x1]? = some gl[x1]:=List.getElem?_eq_getElem (by omega)
  have q2:gl[x2]? = some gl[x2]:=List.getElem?_eq_getElem (by omega)
  rw [hget x1 _ q1,hget x2 _ q2] at hx
  simp only [Bool.and_eq_true,Bool.not_eq_true'] at hx
  obtain ⟨c1,c2,c3⟩:=hx
  cases hb:((qba ops.toList []).getD x2 0).testBit x1 with
  | true=>rfl
  | false =>
    have hm:x1∈qd0 (qba ops.toList []) gl x2 gl[x2]:=by
     unfold qd0
     rw [List.mem_filter]
     refine ⟨by simpa using s1,?_⟩
     rw [hb,q1]
     simp only [c1,c2]
     rfl
    rw [List.any_eq_true.2 ⟨x1,hm,by simp⟩] at c3
    cases c3
 have hdr:({ w with drawn:=w.drawn + 1 }:World) = w.drew:=rfl
 rw [hdr]
 have hx:=Ext.drew hst
 have hdep:∀ (x i:Nat) (g:GI),x < i->gl[i]? = some g->qyt l x g (qd0 (qba ops.toList []) gl i g) = true->((qba ops.toList []).getD i 0).testBit x = true:=fun x i g hxi hg hd=>by
  unfold qyt at hd
  split at hd
  ·rename_i a ha
   have hxl:x < gl.length:=by rw [← hll];exact (List.getElem?_eq_some_iff.1 ha).1
   have q1:gl[x]? = some gl[x]:=List.getElem?_eq_getElem hxl
   rw [hget x _ q1] at ha
   simp only [Option.some.injEq] at ha
   subst ha
   simp only [Bool.and_eq_true,Bool.not_eq_true'] at hd
   obtain ⟨c1,c2,c3⟩:=hd
   cases hb:((qba ops.toList []).getD i 0).testBit x with
   | true=>rfl
   | false =>
     have hm:x∈qd0 (qba ops.toList []) gl i g:=by
      unfold qd0
      rw [List.mem_filter]
      refine ⟨by simpa using hxi,?_⟩
      rw [hb,q1]
      simp only [c1,c2]
      rfl
     rw [List.any_eq_true.2 ⟨x,hm,by simp⟩] at c3
     cases c3
  ·cases hd
 refine qyv (m:=m) hc hall (kp:=key3 x1 x2 y) (fun i g h=>?_) ops.size (fun f=>f = f1∨f = f2∨f = f3) [x1,x2,y] _ af H w.drew M G a ?_ ?_ ?_ (fun i=>?_) ?_ ?_ ?_ hst.drew (hr.ext hx) fun e a' w' hp=>hp.trans hx.toM
 ·rcases qq6 x1 x2 l l 0 i _ hnc (hget i g h) with hh | ⟨a1,a2,a3,a4⟩
  ·exact .inl hh
  ·rw [Nat.zero_add] at a1 a2
   refine .inr ⟨y,fun k hk hky=>?_⟩
   simp only [key3,Bool.or_eq_true,decide_eq_true_eq] at hk
   rcases hk with rfl | rfl | rfl
   ·exact ⟨a1,hdep _ i g a1 h a3⟩
   ·exact ⟨a2,hdep _ i g a2 h a4⟩
   ·exact absurd rfl hky
 ·rintro f (rfl | rfl | rfl)<;>omega
 ·rintro f (rfl | rfl | rfl)<;>assumption
 ·simp only [List.pairwise_cons,List.mem_cons,List.not_mem_nil,or_false,forall_eq_or_imp,forall_eq,false_imp_iff,implies_true,List.Pairwise.nil,and_true]
  omega
 ·simp only [List.mem_cons,List.not_mem_nil,or_false,key3,Bool.or_eq_true,decide_eq_true_eq]
  constructor
  ·intro h
   refine ⟨by omega,h,?_⟩
   have:i < ops.size:=by omega
   simp [this]
  ·exact fun h=>h.2.1
 ·intro π hp hr'
  have hle:=hp.length_eq
  have hnd:π.Nodup:=hp.nodup_iff.2 (by simp;omega)
  have hmem:∀ a∈π,a = x1∨a = x2∨a = y:=fun a ha=>by simpa using hp.mem_iff.1 ha
  obtain ⟨a,b,c,rfl⟩:∃ a b c,π = [a,b,c]:=by
   match π,hle with
   | [a,b,c],_=>exact ⟨a,b,c,rfl⟩
  simp only [List.nodup_cons,List.mem_cons,List.not_mem_nil,or_false,not_or,not_false_eq_true,List.nodup_nil,and_true] at hnd
  simp only [List.pairwise_cons,List.mem_cons,List.not_mem_nil,or_false,forall_eq_or_imp,forall_eq,false_imp_iff,implies_true,List.Pairwise.nil,and_true] at hr'
  have ha:=hmem a (by simp)
  have hb:=hmem b (by simp)
  have hc':=hmem c (by simp)
  have hno:∀ u v,u = x2->v = x1->(v < u->((qba ops.toList []).getD u 0).testBit v = false)->False:=fun u v hu hv h=>by
   subst hu hv
   rw [hbit] at h
   exact absurd (h s1) (by simp)
  rcases ha with rfl | rfl | rfl<;>rcases hb with rfl | rfl | rfl<;>rcases hc' with rfl | rfl | rfl <;>
   first
   | (exfalso;omega)
   | exact (hno _ _ rfl rfl hr'.1.1).elim
   | exact (hno _ _ rfl rfl hr'.1.2).elim
   | exact (hno _ _ rfl rfl hr'.2).elim
   | exact ⟨f1,.inl rfl,e1⟩
   | exact ⟨f2,.inr (.inl rfl),e2⟩
   | exact ⟨f3,.inr (.inr rfl),e3⟩
 ·simp
 ·intro i j hi hl _ _
  simp [hi] at hl
variable {af:AF} {H:List Ent}
theorem qfr {l:List (GI×List Nat)} (x1 x2 y:Nat) (o1 o2 o3:List Nat) (l1 l2 l3:List (GI×List Nat)) (hs:qbfi x1 x2 y l o1 o2 o3 = true) (h1:qkf (key3 x1 x2 y) l [] o1 = l1) (h2:qkf (key3 x1 x2 y) l [] o2 = l2) (h3:qkf (key3 x1 x2 y) l [] o3 = l3)
 (hA:runD P Q [] l1 af H) (hB:runD P Q [] l2 af H) (hC:runD P Q [] l3 af H):VI P fr n m (.drw l) Q af H:=by
 subst h1 h2 h3
 intro c hc
 cases c<;>simp only [qb5] at hc
 case region id ops draw =>
  split at hc
  ·rename_i l' hl
   cases draw with
   | true =>
     rw [if_pos rfl] at hc
     split at hc
     ·rename_i hm
      obtain ⟨z,hx,hxx⟩:=Option.map_eq_some_iff.1 hc
      simp only [IC.drw.injEq] at hxx
      subst hxx
      exact qbsc hm hl hx hs hA hB hC
     ·cases hc
   | false=>rw [if_neg (by simp)] at hc;cases hc
  ·exfalso;split at hc<;>simp at hc
 all_goals (exfalso;(repeat' split at hc)<;>simp at hc)
end
end Go.V
