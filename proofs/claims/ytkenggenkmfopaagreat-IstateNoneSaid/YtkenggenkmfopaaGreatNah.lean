/- A text of this proof. -/
import Derived.Test.YtkenggenkmfopaaGreatNag
set_option linter.unusedVariables false
set_option linter.unusedSimpArgs false

/-
 The value logic, part n: a call out of a greater state.
-/
namespace Go.V
open Go Go.RowKit

def VO.ren (σ:Nat->Nat):VO->VO
 | .val v=>.val (v.ren σ)
 | .pan v=>.pan (v.ren σ)
def VO.bd (k:Nat):VO->Bool
 | .val v=>v.bd k
 | .pan v=>v.bd k

def q8 {α:Type}:List α->List Nat->List α->List α
 | l,i :: is,e :: es=>q8 (l.set i e) is es
 | l,_,_=>l

section
variable {α:Type}
theorem qde:∀ (is:List Nat) (l es:List α),(q8 l is es).length = l.length
 | [],l,es=>by simp [q8]
 | i :: is,l,[]=>by simp [q8]
 | i :: is,l,e :: es=>by rw [q8,qde is];simp
theorem qfo:∀ (is:List Nat) (l es:List α) (j:Nat),j ∉ is->(q8 l is es)[j]? = l[j]?
 | [],l,es,j,_=>by simp [q8]
 | i :: is,l,[],j,_=>by simp [q8]
 | i :: is, l, e :: es, j, h => by
   simp only [List.mem_cons,not_or] at h
   rw [q8,qfo is _ _ j h.2,List.getElem?_set_ne (Ne.symm h.1)]
theorem qkv:∀ (is:List Nat) (l es:List α) (j i:Nat),is.Nodup->is.length = es.length->is[j]? = some i->i < l.length->(q8 l is es)[i]? = es[j]?
 | [],l,es,j,i,_,_,h,_=>by simp at h
 | x :: is,l,[],j,i,_,hl,h,_=>by simp at hl
 | x :: is, l, e :: es, 0, i, hn, hl, h, hi => by
   simp only [List.getElem?_cons_zero,Option.some.injEq] at h
   subst h
   rw [List.nodup_cons] at hn
   rw [q8,qfo is _ _ x hn.1]
   simp [hi]
 | x :: is, l, e :: es, j + 1, i, hn, hl, h, hi => by
   simp only [List.getElem?_cons_succ] at h ⊢
   rw [List.nodup_cons] at hn
   rw [q8,qkv is _ es j i hn.2 (by simpa using hl) h (by simpa using hi)]
end

def sg (sel:List Nat) (j:Nat):Nat:=sel.getD j 0
def sg' (sel:List Nat) (len:Nat) (j:Nat):Nat:=if j < sel.length then sel.getD j 0 else len + (j - sel.length)

theorem qdv {sel:List Nat} {j:Nat} (h:j < sel.length):sel[j]? = some (sg sel j):=by
 rw [sg,List.getD_eq_getElem?_getD,List.getElem?_eq_getElem h];rfl

section
variable {w w':World} {M M':Nat->Nat->Prop} {G G':List Gh}

theorem qo2 {σ:Nat->Nat} {k:Nat} (hG:∀ (i:Nat) (g:Gh),i < k->G[i]? = some g->∃ g':Gh,G'[σ i]? = some g'∧g'.core = g.core) {g:Gh} {q:Nat} {es:List AV} (hb:AV.bds k es = true) (h:qid w M G g q es):qid w M G' g q (AV.rens σ es):=by
 obtain ⟨h1,h2,vs,t,us,h3,h4,h5,h6,h7⟩:=h
 have hl:(AV.rens σ es).length = es.length:=by rw [qm6];simp
 rw [← hl] at h1 h7
 exact ⟨h1,h2,vs,t,us,h3,h4,qb5 hG (fun b o h=>⟨h,rfl⟩) es us hb h5,h6,h7⟩

theorem qpm {σ:Nat->Nat} {k:Nat} (hG:∀ (i:Nat) (g:Gh),i < k->G[i]? = some g->∃ g':Gh,G'[σ i]? = some g'∧g'.core = g.core) {g:Gh}:∀ {e:Ent},e.bd k = true->qf4 w M G g e->qf4 w M G' g (e.ren σ)
 | .dead,_,h=>h
 | .blk cs, hb, h => by
   obtain ⟨h1,⟨vs,t,h2,h3⟩,h4⟩:=h
   exact ⟨h1,⟨vs,t,h2,qb5 hG (fun b o h=>⟨h,rfl⟩) cs vs hb h3⟩,h4⟩
 | .app q es, hb, h => by
   obtain ⟨h1,h2,h3⟩:=h
   have hl:(AV.rens σ es).length = es.length:=by rw [qm6];simp
   rw [← hl] at h3
   exact ⟨h1,qo2 hG hb h2,h3⟩
 | .mrow q es, hb, h => by
   obtain ⟨h1,h2,h3⟩:=h
   exact ⟨h1,qo2 hG hb h2,h3⟩
 | .lp d as, hb, h => by
   obtain ⟨h1,⟨vs,h2,h3⟩,h4⟩:=h
   exact ⟨h1,⟨vs,h2,qb5 hG (fun b o h=>⟨h,rfl⟩) as vs hb h3⟩,h4⟩
 | .cus R,hb,h=>h

theorem q14 {g:Gh}:∀ {e:Ent},qf4 w M G g e->e.bd G.length = true
 | .dead,_=>rfl
 | .blk cs,h=>by obtain ⟨_,⟨vs,t,_,h3⟩,_⟩:=h;exact qcz _ _ h3
 | .app q es,h=>by obtain ⟨_,⟨_,_,vs,t,us,_,_,h5,_⟩,_⟩:=h;exact qcz _ _ h5
 | .mrow q es,h=>by obtain ⟨_,⟨_,_,vs,t,us,_,_,h5,_⟩,_⟩:=h;exact qcz _ _ h5
 | .lp d as,h=>by obtain ⟨_,⟨vs,_,h3⟩,_⟩:=h;exact qcz _ _ h3
 | .cus R,h=>rfl
end

section
variable {P:Program} {f:FuncId} {H H0:List Ent} {args0:List AV} {Q:List Ent->VO->Prop}

theorem qik {sel:List Nat} {w w':World} {M M':Nat->Nat->Prop} {G G0 G1:List Gh} {H1:List Ent} (hn:sel.Nodup) (hlt:∀ i∈sel,i < H.length) (hst:St w M G H) (h0l:G0.length = sel.length)
 (h0:∀ (j:Nat) (g₀:Gh),G0[j]? = some g₀->∃ g:Gh,G[sg sel j]? = some g∧g₀.core = g.core∧∀ b,g₀.fp b->g.fp b) (hext:Ext w M G0 w' M' G1) (hst1:St w' M' G1 H1) :
 ∃ G', Ext w M G w' M' G' ∧ St w' M' G' (q8 H sel ((H1.take sel.length).map (Ent.ren (sg' sel H.length))) ++ (H1.drop sel.length).map (Ent.ren (sg' sel H.length))) ∧
   ∀ (v:AV) (x:Value),VR w' M' G1 v x->VR w' M' G' (v.ren (sg' sel H.length)) x:=by
 have hlen:=hst.len
 have hlen1:=hst1.len
 have h1l:sel.length≤G1.length:=by
  rcases Nat.eq_zero_or_pos sel.length with hz | hz
  ·omega
  ·have hlast:sel.length - 1 < G0.length:=by omega
   obtain ⟨g',hg',_⟩:=hext.core (sel.length - 1) _ (List.getElem?_eq_getElem hlast)
   have:=(List.getElem?_eq_some_iff.1 hg').1
   omega
 let G':List Gh:=q8 G sel (G1.take sel.length) ++ G1.drop sel.length
 let L:=q8 H sel ((H1.take sel.length).map (Ent.ren (sg' sel H.length))) ++ (H1.drop sel.length).map (Ent.ren (sg' sel H.length))
 have hGl:(q8 G sel (G1.take sel.length)).length = H.length:=by rw [qde,hlen]
 have hLl:(q8 H sel ((H1.take sel.length).map (Ent.ren (sg' sel H.length)))).length = H.length:=qde _ _ _
 have hslt:∀ j,j < sel.length->sg sel j < H.length:=fun j hj=>hlt _ (List.mem_of_getElem? (qdv hj))
 -- where the new numbers lead
 have hG1:∀ j,j < G1.length->G'[sg' sel H.length j]? = G1[j]?:=fun j hj=>by
  unfold sg'
  by_cases hjs:j < sel.length
  ·rw [if_pos hjs]
   show (q8 G sel (G1.take sel.length) ++ _)[sg sel j]? = _
   rw [List.getElem?_append_left (by rw [hGl];exact hslt j hjs),qkv sel G _ j _ hn (by simp;omega) (qdv hjs) (by rw [hlen];exact hslt j hjs),List.getElem?_take_of_lt hjs]
  ·rw [if_neg hjs]
   show (q8 G sel (G1.take sel.length) ++ _)[_]? = _
   rw [List.getElem?_append_right (by rw [hGl];omega),hGl,List.getElem?_drop]
   congr 1;omega
 have hH1:∀ j,j < H1.length->L[sg' sel H.length j]? = (H1[j]?).map (Ent.ren (sg' sel H.length)):=fun j hj=>by
  unfold sg'
  by_cases hjs:j < sel.length
  ·rw [if_pos hjs]
   show (q8 H sel _ ++ _)[sg sel j]? = _
   rw [List.getElem?_append_left (by rw [hLl];exact hslt j hjs),qkv sel H _ j _ hn (by simp;omega) (qdv hjs) (hslt j hjs),List.getElem?_map,List.getElem?_take_of_lt hjs]
   rfl
  ·rw [if_neg hjs]
   show (q8 H sel _ ++ _)[_]? = _
   rw [List.getElem?_append_right (by rw [hLl];omega),hLl,List.getElem?_map,List.getElem?_drop]
   congr 2;omega
 -- each number is an old one, or one of the call's
 have hcase:∀ (i:Nat) (g:Gh),G'[i]? = some g->(∃ j,j < G1.length∧i = sg' sel H.length j∧G1[j]? = some g)∨(i ∉ sel∧i < H.length∧G[i]? = some g):=fun i g hg=>by
  by_cases hi:i < H.length
  ·by_cases his:i∈sel
   ·obtain ⟨j,hj⟩:=List.mem_iff_getElem?.1 his
    have hjl:=(List.getElem?_eq_some_iff.1 hj).1
    have he:i = sg' sel H.length j:=by
     unfold sg';rw [if_pos hjl,List.getD_eq_getElem?_getD,hj];rfl
    exact .inl ⟨j,by omega,he,by rw [← hG1 j (by omega),← he];exact hg⟩
   ·have:(q8 G sel (G1.take sel.length) ++ G1.drop sel.length)[i]? = some g:=hg
    rw [List.getElem?_append_left (by rw [hGl];exact hi),qfo _ _ _ _ his] at this
    exact .inr ⟨his,hi,this⟩
  ·have hl:=(List.getElem?_eq_some_iff.1 hg).1
   have hl':i < H.length + (G1.length - sel.length):=by
    have:(q8 G sel (G1.take sel.length) ++ G1.drop sel.length).length = H.length + (G1.length - sel.length):=by rw [List.length_append,hGl,List.length_drop]
    rw [← this];exact hl
   have he:i = sg' sel H.length (sel.length + (i - H.length)):=by
    unfold sg';rw [if_neg (by omega)];omega
   exact .inl ⟨sel.length + (i - H.length),by omega,he,by rw [← hG1 _ (by omega),← he];exact hg⟩
 have hmap:∀ (i:Nat) (g:Gh),i < G1.length->G1[i]? = some g->∃ g':Gh,G'[sg' sel H.length i]? = some g'∧g'.core = g.core:=fun i g hi hg=>⟨g,by rw [hG1 i hi];exact hg,rfl⟩
 have hown0:∀ b,own G0 b->own G b∧∃ (i:Nat) (g:Gh),i∈sel∧G[i]? = some g∧g.fp b:=fun b ⟨j,g₀,hg₀,hb⟩=>by
  obtain ⟨g,h1,h2,h3⟩:=h0 j g₀ hg₀
  have hj:=(List.getElem?_eq_some_iff.1 hg₀).1
  exact ⟨⟨_,g,h1,h3 b hb⟩,_,g,List.mem_of_getElem? (qdv (by omega)),h1,h3 b hb⟩
 have hout0:∀ (i:Nat) (g:Gh) (b:Nat),i ∉ sel->G[i]? = some g->g.fp b->¬ own G0 b:=fun i g b hi hg hb ho=>by
  obtain ⟨_,j,g',h1,h2,h3⟩:=hown0 b ho
  exact hi (hst.dj i j g g' b hg h2 hb h3 ▸ h1)
 have hcore:∀ (i:Nat) (g:Gh),G[i]? = some g->∃ g':Gh,G'[i]? = some g'∧g'.core = g.core:=fun i g hg=>by
  have hi:=(List.getElem?_eq_some_iff.1 hg).1
  rw [hlen] at hi
  by_cases his:i∈sel
  ·obtain ⟨j,hj⟩:=List.mem_iff_getElem?.1 his
   have hjl:=(List.getElem?_eq_some_iff.1 hj).1
   have he:i = sg' sel H.length j:=by
    unfold sg';rw [if_pos hjl,List.getD_eq_getElem?_getD,hj];rfl
   have he2:sg sel j = i:=by rw [sg,List.getD_eq_getElem?_getD,hj];rfl
   obtain ⟨g₀',q1,q2,q3⟩:=h0 j _ (List.getElem?_eq_getElem (by omega:j < G0.length))
   rw [he2,hg] at q1
   simp only [Option.some.injEq] at q1;subst q1
   obtain ⟨g₁,r1,r2⟩:=hext.core j _ (List.getElem?_eq_getElem (by omega:j < G0.length))
   exact ⟨g₁,by rw [he,hG1 j (by omega)];exact r1,r2.trans q2⟩
  ·exact ⟨g,by show (q8 G sel _ ++ _)[i]? = _;rw [List.getElem?_append_left (by rw [hGl];exact hi),qfo _ _ _ _ his];exact hg,rfl⟩
 refine ⟨G',⟨hext.os,hext.tape,hext.output,hext.size,hcore,hext.le,fun b hb ho=>hext.out b hb (fun h=>ho (hown0 b h).1),fun b ⟨i,g,hg,hb⟩=>?_,fun b o hm=>?_⟩,?_,fun v x hv=>?_⟩
 ·rcases hcase i g hg with ⟨j,hj,rfl,hgj⟩ | ⟨his,hi,hgi⟩
  ·rcases hext.new b ⟨j,g,hgj,hb⟩ with hx | hx
   ·exact .inl (hown0 b hx).1
   ·exact .inr hx
  ·exact .inl ⟨i,g,hgi,hb⟩
 ·rcases hext.Mnew b o hm with hx | hx | hx
  ·exact .inl hx
  ·exact .inr (.inl (hown0 b hx).1)
  ·exact .inr (.inr hx)
 ·refine quj hst (by show (q8 G sel _ ++ _).length = (q8 H sel _ ++ _).length;simp [qde,hlen,hlen1]) (fun i g e hg he=>?_) hcore (fun i j g g' b h1 h2 h3 h4=>?_) (fun i g b hg hb=>?_) hst1.Mlt hst1.one
  ·rcases hcase i g hg with ⟨j,hj,rfl,hgj⟩ | ⟨his,hi,hgi⟩
   ·have hjH:j < H1.length:=by omega
    have he':L[sg' sel H.length j]? = some e:=he
    rw [hH1 j hjH,List.getElem?_eq_getElem hjH] at he'
    simp only [Option.map_some,Option.some.injEq] at he'
    subst he'
    have hok:=hst1.ok j g _ hgj (List.getElem?_eq_getElem hjH)
    exact .inr (qpm hmap (q14 hok) hok)
   ·have he':(q8 H sel _ ++ _)[i]? = some e:=he
    rw [List.getElem?_append_left (by rw [hLl];exact hi),qfo _ _ _ _ his] at he'
    refine .inl ⟨hgi,he',fun b hb=>hext.out b (hst.lt i g b hgi hb) (hout0 i g b his hgi hb),hext.le,fun b o hb hm=>?_,hext.size⟩
    rcases hext.Mnew b o hm with hx | hx | hx
    ·exact hx
    ·exact absurd hx (hout0 i g b his hgi hb)
    ·have:=hst.lt i g b hgi hb;omega
  ·have key:∀ (i j:Nat) (g g':Gh),i ∉ sel->G[i]? = some g->g.fp b->G1[j]? = some g'->g'.fp b->False:=fun i j g g' hi hg hb hg' hb'=>by
    rcases hext.new b ⟨j,g',hg',hb'⟩ with hx | hx
    ·exact hout0 i g b hi hg hb hx
    ·have:=hst.lt i g b hg hb;omega
   rcases hcase i g h1 with ⟨i',hi',rfl,hgi⟩ | ⟨his,hi,hgi⟩<;>rcases hcase j g' h2 with ⟨j',hj',rfl,hgj⟩ | ⟨hjs,hj,hgj⟩
   ·rw [hst1.dj _ _ _ _ b hgi hgj h3 h4]
   ·exact (key _ _ _ _ hjs hgj h4 hgi h3).elim
   ·exact (key _ _ _ _ his hgi h3 hgj h4).elim
   ·exact hst.dj _ _ _ _ b hgi hgj h3 h4
  ·rcases hcase i g hg with ⟨j,hj,rfl,hgj⟩ | ⟨his,hi,hgi⟩
   ·exact hst1.lt _ _ b hgj hb
   ·exact Nat.lt_of_lt_of_le (hst.lt _ _ b hgi hb) hext.size
 ·exact qkf hmap (fun b o h=>⟨h,rfl⟩) v x (q7b v x hv) hv

theorem ql2 (sel:List Nat) {Q':List Ent->VO->Prop} (h:VCalls P f H0 args0 Q) (hn:sel.Nodup) (hlt:∀ i∈sel,i < H.length) (hl:sel.length = H0.length)
 (hent:∀ (j:Nat) (e:Ent),H0[j]? = some e->e = .dead∨(e.bd H0.length = true∧H[sg sel j]? = some (e.ren (sg sel)))) (hargs:AV.bds H0.length args0 = true)
 (hQ:∀ H1 o,Q H1 o->Q' (q8 H sel ((H1.take sel.length).map (Ent.ren (sg' sel H.length))) ++ (H1.drop sel.length).map (Ent.ren (sg' sel H.length))) (o.ren (sg' sel H.length))):VCalls P f H (AV.rens (sg sel) args0) Q':=by
 refine ⟨h.1,fun w M G vs hst hv=>?_⟩
 -- the ghosts that the call speaks of
 have hG0:∃ G0,ExtM 0 w M G w M G0∧St w M G0 H0∧G0 = wkG (sg sel) G H0 0:=by
  have hinj:∀ i j,i < H0.length->j < H0.length->sg sel i = sg sel j->i = j:=fun i j hi hj he=>by
   have h1:=qdv (sel:=sel) (j:=i) (by omega)
   have h2:=qdv (sel:=sel) (j:=j) (by omega)
   rw [he,← h2] at h1
   exact (List.getElem?_inj (by omega) hn).1 h1
  have key:=qg3 (n:=0) (m:=0) (σ:=sg sel) (af:=⟨[],[]⟩) (af':=⟨[],[]⟩) (a:={ tmps:=#[],defers:=[] }) hst ⟨rfl,rfl,fun t=>trivial⟩
   ⟨fun i hi=>by omega,Nat.zero_le _,hinj,hent,fun j hj=>hlt _ (List.mem_of_getElem? (qdv (by omega))),fun t=>.inl rfl,fun d hd=>(by cases hd),rfl⟩
  exact ⟨_,key.1,key.2.1,rfl⟩
 obtain ⟨G0,hx,hst0,hG0⟩:=hG0
 have hget:∀ (j:Nat) (g₀:Gh),G0[j]? = some g₀->∃ g:Gh,G[sg sel j]? = some g∧g₀.core = g.core∧∀ b,g₀.fp b->g.fp b:=fun j g₀ hg=>by
  have hj:=(List.getElem?_eq_some_iff.1 hg).1
  rw [hst0.len] at hj
  have hlt':=hlt _ (List.mem_of_getElem? (qdv (sel:=sel) (j:=j) (by omega)))
  rw [← hst.len] at hlt'
  have hq:=qjj (sg sel) G H0 0 j _ (List.getElem?_eq_getElem hj)
  rw [Nat.zero_add] at hq
  rw [hG0,hq] at hg
  have hgd:G.getD (sg sel j) {} = G[sg sel j]:=by rw [List.getD_eq_getElem?_getD,List.getElem?_eq_getElem hlt'];rfl
  rw [hgd] at hg
  simp only [Option.some.injEq] at hg
  refine ⟨G[sg sel j],List.getElem?_eq_getElem hlt',?_,fun b hb=>?_⟩
  ·rw [← hg];split<;>rfl
  ·rw [← hg] at hb
   split at hb
   ·exact hb.elim
   ·exact hb
 have hv0:VRs w M G0 args0 vs:=by
  refine qd0 (σ:=sg sel) (k:=H0.length) (fun i g hi hg=>?_) args0 vs hargs hv
  have hi':i < G0.length:=by rw [hst0.len];exact hi
  obtain ⟨g',q1,q2,_⟩:=hget i _ (List.getElem?_eq_getElem hi')
  rw [hg] at q1
  simp only [Option.some.injEq] at q1;subst q1
  exact ⟨_,List.getElem?_eq_getElem hi',q2⟩
 refine CallsIn.mono (h.2 w M G0 vs hst0 hv0) fun e w' ho=>?_
 have h0l:G0.length = sel.length:=by rw [hst0.len,hl]
 cases e with
 | returned x =>
   obtain ⟨M',G1,H1,v,q1,q2,q3,q4⟩:=ho
   obtain ⟨G',r1,r2,r3⟩:=qik hn hlt hst h0l hget q2 q3
   exact ⟨M',G',_,_,hQ _ _ q1,r1,r2,r3 _ _ q4⟩
 | panicked c =>
   obtain ⟨M',G1,H1,v,x,q1,q2,q3,q4,q5⟩:=ho
   obtain ⟨G',r1,r2,r3⟩:=qik hn hlt hst h0l hget q2 q3
   exact ⟨M',G',_,_,x,hQ _ _ q1,r1,r2,r3 _ _ q4,q5⟩
 | outgrown=>exact ho
end
end Go.V
