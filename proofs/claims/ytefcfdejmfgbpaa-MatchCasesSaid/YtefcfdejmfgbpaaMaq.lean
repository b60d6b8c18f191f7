/- Texts of this proof, joined. -/
import Derived.Test.YtefcfdejmfgbpaaMap
import Derived.Lib.SliceRun
import Derived.Test.YtefcfdejmfgbpaaMak
set_option linter.unusedVariables false
set_option linter.unusedSimpArgs false

/-
 The value logic: a slice that is compared with nil; a copy of a slice.
-/
namespace Go.V
open Go Go.RowKit

def nlq (t:Nat) (x:Opd) (Q:VE->AF->List Ent->Prop):VE->AF->List Ent->Prop
 | .nrm,af,H=>∃ n es,gt af x = .sl n es∧∀ b:Bool,(b = true->es = [])->Q .nrm (put af (some t) (.bool b)) H
 | e,af,H=>Q e af H
section
variable {P:Program} {n m:Nat} {Q:VE->AF->List Ent->Prop} {af:AF} {H:List Ent} {ops:Array Oper}
theorem qu8:∀ {l:List Oper} {gl:List GI} {g:GI},cL P ops n l = some (gl ++ [g])->∃ r o,l = r ++ [o]∧cL P ops n r = some gl∧cGI P ops n o = some g
 | [],gl,g,h=>by simp [cL] at h
 | o :: r, gl, g, h => by
   simp only [cL] at h
   split at h
   ·rename_i a l' ha hl
    simp only [Option.some.injEq] at h
    cases gl with
    | nil =>
      simp only [List.nil_append,List.cons.injEq] at h
      obtain ⟨rfl,rfl⟩:=h
      cases r with
      | nil=>exact ⟨[],o,rfl,rfl,ha⟩
      | cons o2 r2 =>
        simp only [cL] at hl
        split at hl<;>simp at hl
    | cons b gl' =>
      simp only [List.cons_append,List.cons.injEq] at h
      obtain ⟨rfl,rfl⟩:=h
      obtain ⟨r',o',rfl,h1,h2⟩:=qu8 hl
      exact ⟨o :: r',o',rfl,by simp only [cL,ha,h1],h2⟩
   ·cases h
theorem que {t:TypeId} (h:eqT P t = .slice):∃ u,P.underlying t = some (.slice u):=by
 unfold eqT at h
 split at h
 case h_3 u hu=>exact ⟨u,hu⟩
 case h_6=>(repeat' split at h)<;>simp at h
 all_goals cases h
theorem qba7 {o:Oper} {x:Opd} (h:cI P o = some (.v (.bin .eql .slice x (.c .nils)))):∃ t xo yo yt,o.op = .binOp .eql t xo yo yt∧cO xo = some x∧cO yo = some (.c .nils)∧eqT P t = .slice:=by
 unfold cI at h
 split at h
 case h_11 op t xo yo yt ho =>
  split at h
  ·rename_i a b ha hb
   split at h
   ·cases h
   ·simp only [Option.some.injEq,I.v.injEq,IV.bin.injEq] at h
    obtain ⟨rfl,h2,rfl,rfl⟩:=h
    exact ⟨t,xo,yo,yt,ho,ha,hb,h2⟩
  ·cases h
 all_goals exfalso
 all_goals first | (simp [Option.map_eq_some_iff] at h;done) | ((repeat' split at h)<;>simp [Option.map_eq_some_iff] at h;done) | skip
 unfold qt6 at h
 (repeat' split at h)<;>simp [Option.map_eq_some_iff] at h
theorem qus {l:List GI} {t:Nat} {x:Opd} (h:runL P (nlq t x Q) l af H):VI P none n m (.reg false (l ++ [⟨none,some t,.v (.bin .eql .slice x (.c .nils))⟩])) Q af H:=by
 intro c hc
 cases c<;>simp only [qbr] at hc
 case region id ops draw =>
  split at hc
  ·rename_i l' hl
   cases draw with
   | true =>
     rw [if_pos rfl] at hc
     split at hc
     ·obtain ⟨x,_,hx⟩:=Option.map_eq_some_iff.1 hc
      cases hx
     ·cases hc
   | false =>
     rw [if_neg (by simp)] at hc
     simp only [Option.some.injEq,IC.reg.injEq] at hc
     obtain ⟨_,rfl⟩:=hc
     obtain ⟨r,o,hops,h1,h2⟩:=qu8 hl
     unfold cGI at h2
     split at h2
     case h_2=>cases h2
     rename_i g i hg hi
     split at h2
     case isFalse=>cases h2
     rename_i hd
     simp only [Option.some.injEq,GI.mk.injEq] at h2
     obtain ⟨rfl,hdst,rfl⟩:=h2
     have hgd:o.guard = none:=by
      cases hq:o.guard with
      | none=>rfl
      | some p=>rw [hq] at hg;obtain ⟨j,b⟩:=p;simp only [cG] at hg;split at hg<;>simp at hg
     intro w M G a hst hr
     refine wpIn_region_list ?_
     rw [hops]
     refine qcx _ a w ?_
     refine qc8 (n:=n) (m:=m) r l af H w M G a h1 hst hr h fun e a' w' hp=>?_
     obtain ⟨ve,af',M',G',H',h1,h2,h3,h4,h5⟩:=hp
     cases ve with
     | nrm =>
       have h2:e = .normal:=h2
       subst h2
       obtain ⟨k,es,hx,hQ⟩:=h1
       obtain ⟨ty,xo,yo,yt,ho,hxo,hyo,hty⟩:=qba7 hi
       obtain ⟨u,hu⟩:=que hty
       have hvx:=qe hxo h5
       have hvy:VR w' M' G' .nils (a'.eval yo):=qe hyo h5
       rw [hx] at hvx
       obtain ⟨ad,cap,us,hus,hsl,hxv⟩:=hvx
       have hvy:a'.eval yo = .slice none 0 0:=hvy
       have hrun:(o.semAt (fw none).round a'.eval).run P w' = .ok (.value (.bool ad.isNone)) w':=by
        show (Oper.semAt none a'.eval o).run P w' = _
        rw [Oper.semAt_none]
        simp only [execOp,ho,hxv,hvy,Sem.run_bind,qk (u:=.slice ad us.length cap) (v:=.slice none 0 0) (by simp) (by simp),Lib.run_eql_slice_nil w' ty u ad us.length cap 0 0 hu,Result.andThen_ok,Sem.run_pure]
       have hw:Region.wanted o (yielded ops a'.tmps) = true:=by simp [Region.wanted,hgd]
       show wpListIn (fw none) 0 P ops _ [o] a' w'
       simp only [wpListIn]
       rw [if_pos hw]
       refine ⟨fun _ _=>trivial,?_⟩
       rw [hrun]
       refine ⟨.nrm,_,M',G',H',hQ ad.isNone fun hb=>?_,rfl,h3,h4,?_⟩
       ·cases ad with
        | some _=>cases hb
        | none =>
          obtain ⟨q1,_,_,q4⟩:=hsl
          simp only at q4
          have hl:=qb hus
          cases es with
          | nil=>rfl
          | cons _ _=>rw [List.length_cons] at hl;omega
       ·have:=h5.put (v:=.bool ad.isNone) (x:=.bool ad.isNone) rfl hd
        rw [hdst] at this
        rw [hdst]
        exact this
     | ext i=>have h2:e = .exit i:=h2;subst h2;exact ⟨.ext i,af',M',G',H',h1,rfl,h3,h4,h5⟩
     | gto l=>have h2:e = .goto l:=h2;subst h2;exact ⟨.gto l,af',M',G',H',h1,rfl,h3,h4,h5⟩
     | ret=>have h2:e = .ret:=h2;subst h2;exact ⟨.ret,af',M',G',H',h1,rfl,h3,h4,h5⟩
     | pan v=>obtain ⟨x,rfl,hx⟩:=h2;exact ⟨.pan v,af',M',G',H',h1,⟨x,rfl,hx⟩,h3,h4,h5⟩
  ·exfalso;split at hc<;>simp at hc
 all_goals (exfalso;(repeat' split at hc)<;>simp at hc)
theorem qy0 {w:World} {M:Nat->Nat->Prop} {G:List Gh} {x:Value} (k:Nat) (h:VR w M G .nils x):VR w M G (.lit k []) x:=by
 have h:x = .slice none 0 0:=h
 subst h
 exact ⟨none,[],rfl,⟨Nat.le_refl _,Nat.zero_le _,(by simp),rfl⟩,rfl⟩
theorem qqe {f:FuncId} {args:List AV} {k:Nat} {Q':List Ent->VO->Prop} {Q:List Ent->VO->Prop} (h:VCalls P f H args Q') (h1:∀ H' o,Q' H' o->Q H' o∨(o = .val .nils∧Q H' (.val (.lit k [])))):VCalls P f H args Q:=by
 refine ⟨h.1,fun w M G vs hst hv=>(h.2 w M G vs hst hv).mono fun e w' he=>?_⟩
 cases e with
 | returned x =>
   obtain ⟨M',G',H',v,q1,q2,q3,q4⟩:=he
   rcases h1 _ _ q1 with q | ⟨hv,q⟩
   ·exact ⟨M',G',H',v,q,q2,q3,q4⟩
   ·simp only [VO.val.injEq] at hv
    subst hv
    exact ⟨M',G',H',_,q,q2,q3,qy0 k q4⟩
 | panicked ch =>
   obtain ⟨M',G',H',v,x,q1,q2,q3,q4,rfl⟩:=he
   rcases h1 _ _ q1 with q | ⟨hv,q⟩
   ·exact ⟨M',G',H',v,x,q,q2,q3,q4,rfl⟩
   ·cases hv
 | outgrown=>exact he.elim
end
section
variable {P:Program} {fr:Option Nat} {n m:Nat} {a:IC} {Q:VE->AF->List Ent->Prop} {af:AF} {H:List Ent} {w:World} {M:Nat->Nat->Prop} {G:List Gh}
theorem qt5 {S:Type} {Inv:S->Prop} {st:S->AF×List Ent} (hat:At S Inv st m af H) (h:∀ s,Inv s->VI P fr n m a Q (st s).1 (st s).2):VI P fr n m a Q af H:=by
 obtain ⟨s,h1,h2⟩:=hat
 exact qbde (h s h1) h2
end
theorem q3s {t:Nat} {x:Opd} {Q:VE->AF->List Ent->Prop} {af:AF} {H:List Ent}:nlq t x Q .nrm af H = ∃ n es,gt af x = .sl n es∧∀ b:Bool,(b = true->es = [])->Q .nrm (put af (some t) (.bool b)) H:=rfl
attribute [go_sem] q3s

section
variable {P:Program} {fr:Option Nat} {n m:Nat} {a:IC} {Q:VE->AF->List Ent->Prop} {af:AF} {H:List Ent}
theorem qz2 {G:List Gh} {i:Nat} {g g':Gh} (hg:G[i]? = some g) (hc:g'.core = g.core):∀ (j:Nat) (x:Gh),G[j]? = some x->∃ y:Gh,(G.set i g')[j]? = some y∧y.core = x.core:=fun j x hj=>by
 by_cases hij:i = j
 ·subst hij
  rw [hg] at hj
  simp only [Option.some.injEq] at hj
  subst hj
  exact ⟨g',by rw [List.getElem?_set_self (List.getElem?_eq_some_iff.1 hg).1],hc⟩
 ·exact ⟨x,by rw [List.getElem?_set_ne hij];exact hj,rfl⟩
theorem qog (i t j o:Nat) (he:ent H i = .blk [.ptr j o]) (ht:get af.tm t = .ptr i 0) (h:VI P fr n m a Q ⟨(t,.eptr 1 [.ptr j o] 0 0) :: af.tm,af.dl⟩ (H.set i .dead)):VI P fr n m a Q af H:=by
 intro c hc w M G act hst hr
 have hH:=qs he (by simp)
 obtain ⟨g,hg⟩:=hst.lenH hH
 obtain ⟨h1,⟨vs,ty,h2,h3⟩,h4⟩:=hst.ok i g _ hg hH
 have hiG:=(List.getElem?_eq_some_iff.1 hg).1
 obtain ⟨x,vr,rfl,hx,hvr⟩:=h3
 simp only [VRs] at hvr
 subst hvr
 obtain ⟨gj,hgj,rfl⟩:=hx
 let X:Value:=.pointer (some ⟨gj.blk,o,none⟩)
 let g':Gh:={ g with fp:=fun _=>False }
 let M':Nat->Nat->Prop:=fun b q=>M b q∨(b = g.blk∧q = 0)
 have hcell:w.cell? ⟨g.blk,0,none⟩ = some X:=by rw [cell_of_heap h2 0];rfl
 have hle:Le w M w M':=fun b q hm=>⟨.inl hm,rfl⟩
 have hcore:=qz2 (g':=g') hg rfl
 have hst':St w M' (G.set i g') (H.set i .dead):=by
  have hget:∀ (k:Nat) (gk:Gh),(G.set i g')[k]? = some gk->(i = k∧gk = g')∨(i≠k∧G[k]? = some gk):=fun k gk hk=>by
   by_cases hik:i = k
   ·subst hik
    rw [List.getElem?_set_self hiG] at hk
    simp only [Option.some.injEq] at hk
    exact .inl ⟨rfl,hk.symm⟩
   ·rw [List.getElem?_set_ne hik] at hk
    exact .inr ⟨hik,hk⟩
  refine ⟨by rw [List.length_set,List.length_set];exact hst.len,fun k gk e hk hke=>?_,fun k l ga gb b hk hl ha hb=>?_,fun k gk b hk hb=>?_,fun b q hm=>?_,fun b q v hm hv=>?_⟩
  ·rcases hget k gk hk with ⟨rfl,rfl⟩ | ⟨hik,hk⟩
   ·rw [List.getElem?_set_self (by rw [← hst.len];exact hiG)] at hke
    simp only [Option.some.injEq] at hke
    subst hke
    exact fun b hb=>hb
   ·rw [List.getElem?_set_ne hik] at hke
    refine qfq hcore ⟨fun _ _=>rfl,hle,fun b q hb hm=>?_,Nat.le_refl _⟩ (hst.ok k gk e hk hke)
    rcases hm with hm | ⟨rfl,_⟩
    ·exact hm
    ·exact absurd (hst.dj i k g gk g.blk hg hk ((h1 _).2 rfl) hb) hik
  ·rcases hget k ga hk with ⟨rfl,rfl⟩ | ⟨_,hk⟩
   ·exact ha.elim
   ·rcases hget l gb hl with ⟨rfl,rfl⟩ | ⟨_,hl⟩
    ·exact hb.elim
    ·exact hst.dj k l ga gb b hk hl ha hb
  ·rcases hget k gk hk with ⟨rfl,rfl⟩ | ⟨_,hk⟩
   ·exact hb.elim
   ·exact hst.lt k gk b hk hb
  ·rcases hm with hm | ⟨rfl,_⟩
   ·exact hst.Mlt b q hm
   ·exact hst.lt i g g.blk hg ((h1 _).2 rfl)
  ·rcases hm with hm | ⟨rfl,rfl⟩
   ·exact hst.one b q v hm hv
   ·rw [hcell] at hv
    simp only [Option.some.injEq] at hv
    subst hv
    rfl
 have hext:Ext w M G w M' (G.set i g'):=by
  refine ⟨rfl,rfl,rfl,Nat.le_refl _,hcore,hle,fun _ _ _=>rfl,fun b hb=>?_,fun b q hm=>?_⟩
  ·obtain ⟨k,gk,hk,hb⟩:=hb
   by_cases hik:i = k
   ·subst hik
    rw [List.getElem?_set_self hiG] at hk
    simp only [Option.some.injEq] at hk
    subst hk
    exact hb.elim
   ·rw [List.getElem?_set_ne hik] at hk
    exact .inl ⟨k,gk,hk,hb⟩
  ·rcases hm with hm | ⟨rfl,_⟩
   ·exact .inl hm
   ·exact .inr (.inl ⟨i,g,hg,(h1 _).2 rfl⟩)
 have hr':=hr.ext hext
 refine qnr (h c hc) hst' ⟨hr'.size,hr'.defers,fun u=>?_⟩ hext.toM
 show VR w M' (G.set i g') (if t = u then _ else get af.tm u) _
 by_cases htu:t = u
 ·subst htu
  rw [if_pos rfl]
  have h5:=hr.rd t
  rw [ht] at h5
  obtain ⟨g5,hg5,h6⟩:=h5
  rw [hg] at hg5
  simp only [Option.some.injEq] at hg5
  subst hg5
  obtain ⟨gj',hgj',hcj⟩:=hcore j gj hgj
  have hbj:gj'.blk = gj.blk:=congrArg (·.1) hcj
  refine ⟨⟨g.blk,0,none⟩,1,[X],⟨X,[],rfl,⟨gj',hgj',by rw [hbj]⟩,rfl⟩,⟨Nat.le_refl _,by decide,(by simp;rfl),.inr ⟨rfl,fun k v hk=>?_⟩⟩,Nat.zero_lt_succ 0,h6⟩
  have hk:([X]:List Value)[k]? = some v:=hk
  cases k with
  | zero=>simp at hk;subst hk;exact ⟨hcell,.inr ⟨rfl,rfl⟩⟩
  | succ k=>simp at hk
 ·rw [if_neg htu]
  exact hr'.rd u
end

mutual
def szY:Ty->Nat
 | .mk _ _ l=>1 + szYs l
def szYs:List Ty->Nat
 | []=>0
 | x :: r=>szY x + szYs r
end
mutual
def dpY:Ty->Nat
 | .mk _ _ l=>1 + dpYs l
def dpYs:List Ty->Nat
 | []=>0
 | x :: r=>max (dpY x) (dpYs r)
end
mutual
def varY:Ty->List Int
 | .mk c v l=>(if c = [] then [v] else []) ++ qf7 l
def qf7:List Ty->List Int
 | []=>[]
 | x :: r=>varY x ++ qf7 r
end
theorem qhr (t:Ty):szY t = 1 + szYs t.args:=by cases t;rw [szY];rfl
theorem qsa (t:Ty):dpY t = 1 + dpYs t.args:=by cases t;rw [dpY];rfl
theorem qvs (t:Ty):1≤szY t:=by rw [qhr];omega
theorem q2x (t:Ty):1≤dpY t:=by rw [qsa];omega

mutual
def qfu:Ty->Ty->Bool
 | .mk c v l,.mk c' v' l'=>decide (c = c') && decide (v = v') && qbz l l'
def qbz:List Ty->List Ty->Bool
 | [],[]=>true
 | x :: r,y :: r'=>qfu x y && qbz r r'
 | _,_=>false
end
theorem qpw (a b:Ty):qfu a b = (decide (a.con = b.con) && decide (a.var = b.var) && qbz a.args b.args):=by cases a;cases b;rw [qfu];rfl
theorem qha {l l':List Ty} {i:Nat} (h:i < l.length) (h':i < l'.length):qbz (l.drop i) (l'.drop i) = (qfu (l.getD i Y0) (l'.getD i Y0) && qbz (l.drop (i + 1)) (l'.drop (i + 1))):=by
 rw [qiw h,qiw h',qbz]
theorem qr0 {l l':List Ty} {i:Nat} (h:l.length≤i) (h':l'.length≤i):qbz (l.drop i) (l'.drop i) = true:=by
 rw [List.drop_of_length_le h,List.drop_of_length_le h',qbz]
theorem ql1 {y:Ty} {r:List Ty}:qbz [] (y :: r) = false:=by rw [qbz]<;>simp
theorem qlk {y:Ty} {r:List Ty}:qbz (y :: r) [] = false:=by rw [qbz]<;>simp
theorem qsu {l:List Ty} (h:∀ x∈l,∀ b,qfu x b = true ↔ x = b):∀ l',qbz l l' = true ↔ l = l':=by
 induction l with
 | nil => intro l'; cases l' with
   | nil=>simp [qbz]
   | cons y r=>rw [ql1];simp
 | cons x r ih => intro l'; cases l' with
   | nil=>rw [qlk];simp
   | cons y r' =>
     rw [qbz,Bool.and_eq_true,h x (by simp),ih (fun z hz=>h z (by simp [hz]))]
     simp
theorem ty_eq {a b:Ty}:a = b ↔ (a.con = b.con∧a.var = b.var)∧a.args = b.args:=by
 cases a;cases b;simp [Ty.con,Ty.var,Ty.args,and_assoc]
theorem qk4:∀ a b,qfu a b = true ↔ a = b:=Ty.ind fun a ih b=>by
 rw [qpw,Bool.and_eq_true,Bool.and_eq_true,qsu ih,ty_eq,decide_eq_true_eq,decide_eq_true_eq]
theorem qsk (a:Ty):qfu a a = true:=(qk4 a a).2 rfl
mutual
theorem qwi:∀ t,(varY t).length≤szY t
 | .mk c v l => by
   rw [varY,szY,List.length_append]
   have:=qlc l
   split<;>simp<;>omega
theorem qlc:∀ l,(qf7 l).length≤szYs l
 | []=>by simp [qf7]
 | x :: r => by
   rw [qf7,szYs,List.length_append]
   have:=qwi x
   have:=qlc r
   omega
end
theorem qk5:∀ l:List Ty,l.length≤szYs l
 | []=>by simp [szYs]
 | x :: r=>by rw [szYs,List.length_cons];have:=qvs x;have:=qk5 r;omega
theorem qk1 {l:List Ty} {x:Ty} (h:x∈l):szY x≤szYs l:=by
 induction l with
 | nil=>cases h
 | cons y r ih =>
   rw [szYs]
   rcases List.mem_cons.1 h with rfl | h
   ·omega
   ·have:=ih h;omega
theorem qnu {l:List Ty} {x:Ty} (h:x∈l):dpY x≤dpYs l:=by
 induction l with
 | nil=>cases h
 | cons y r ih =>
   rw [dpYs]
   rcases List.mem_cons.1 h with rfl | h
   ·omega
   ·have:=ih h;omega

def digN (u:Nat):List UInt8:=if h:u < 10 then [UInt8.ofNat (48 + u)] else digN (u / 10) ++ [UInt8.ofNat (48 + u % 10)]
termination_by u
decreasing_by omega
theorem qh0 {u:Nat} (h:u < 10):digN u = [UInt8.ofNat (48 + u)]:=by rw [digN,dif_pos h]
theorem qoh {u:Nat} (h:¬ u < 10):digN u = digN (u / 10) ++ [UInt8.ofNat (48 + u % 10)]:=by rw [digN,dif_neg h]
theorem qox:∀ (k u:Nat),u < 10 ^ (k + 1)->(digN u).length≤k + 1
 | 0,u,h=>by rw [qh0 (by simpa using h)];simp
 | k + 1, u, h => by
   by_cases h10:u < 10
   ·rw [qh0 h10];simp
   ·rw [qoh h10,List.length_append]
    have:=qox k (u / 10) (by rw [Nat.div_lt_iff_lt_mul (by omega)];rw [Nat.pow_succ] at h;exact h)
    simp;exact this
theorem qwa (u:Nat):0 < (digN u).length:=by
 by_cases h:u < 10
 ·rw [qh0 h];simp
 ·rw [qoh h];simp
def digI (n:Int):List UInt8:=if n < 0 then 45 :: digN n.natAbs else digN n.natAbs
def ltrI (n:Int):List UInt8:=if n < 0 then [] else if n < 26 then [UInt8.ofNat (97 + n.toNat)] else UInt8.ofNat (97 + n.toNat % 26) :: digN (n.toNat / 26)
def qf2 (t:Ty):List UInt8:=if t.con = [] then (if 0≤t.var then ltrI t.var else 63 :: digI (-1 - t.var)) else t.con
def arrW:List UInt8:=[45,62]
def parW (b:Bool) (s:List UInt8):List UInt8:=if b = true then 40 :: (s ++ [41]) else s
mutual
def txtY:Ty->List UInt8
 | .mk c v l=>if c = arrW then (match l with | [a,b]=>parW (decide (a.con = arrW)) (txtY a) ++ ([32,45,62,32] ++ txtY b) | _=>[]) else qf2 (.mk c v l) ++ argY l
def argY:List Ty->List UInt8
 | []=>[]
 | a :: r=>(32 :: parW (decide (a.args≠[])) (txtY a)) ++ argY r
end
end Go.V
