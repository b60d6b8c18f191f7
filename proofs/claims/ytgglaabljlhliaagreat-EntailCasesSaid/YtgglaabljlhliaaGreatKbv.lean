/- Texts of this proof, joined. -/
import Derived.Test.YtgglaabljlhliaaGreatKbu
set_option linter.unusedVariables false
set_option linter.unusedSimpArgs false

/- what follows: who gives up is caught -/
set_option maxRecDepth 4000
namespace Go.Proofs.YtgglaabljlhliaaGreat
open Go Go.RowKit Go.V

def qbgn:IC:=.reg false [⟨none,some 9,.v (.mov (.t 3))⟩]
def qb2a:IC:=.drw [(⟨none,some 10,.v (.bld [(.int .i64 0),(.int .i64 0),.nils,.nils] [])⟩,[]),(⟨none,some 11,.v (.fad (.t 2) 0)⟩,[]),(⟨none,some 12,.v (.ld false 1 (.t 11))⟩,[]),(⟨none,none,.st 4 (.agg [.id,.id,(.sl 3),(.sl 4)]) (.t 0) (.t 10)⟩,[2]),(⟨none,none,.st 1 .id (.t 1) (.t 12)⟩,[])]
def kf_l:List GI:=[⟨none,some 6,.v (.tya 100 (.agg [(.int .i64 0)]) (.t 5))⟩,⟨none,some 4,.v (.mov (.t 6))⟩,⟨none,some 7,.v (.ext (.t 4) 0)⟩,⟨none,some 8,.v (.ext (.t 4) 1)⟩,⟨none,some 2,.alo [(.int .i64 0)]⟩,⟨none,none,.st 1 (.agg [.id]) (.t 2) (.t 7)⟩,⟨none,some 3,.v (.mov (.t 8))⟩]
def kf:IC:=.seq qbgn (.cond (.t 9) qb2a .skip)
theorem c0dh:(qrn Tryz.prog 52).map (fun p=>(p.1,p.2.1)) = some (13,5):=by kernel_rfl
theorem c0di:(qrn Tryz.prog 52).map (fun p=>p.2.2.1) = some kf_l:=by kernel_rfl
theorem c0dj:(qrn Tryz.prog 52).map (fun p=>p.2.2.2) = some kf:=by kernel_rfl
theorem c0dk:qrn Tryz.prog 52 = some (13,5,kf_l,kf):=by
 have h1:=c0dh
 have h2:=c0di
 have h3:=c0dj
 cases h:qrn Tryz.prog 52 with
 | none=>rw [h] at h1;cases h1
 | some p =>
   obtain ⟨a,b,c,d⟩:=p
   rw [h] at h1 h2 h3
   simp only [Option.map_some,Option.some.injEq,Prod.mk.injEq] at h1 h2 h3
   obtain ⟨rfl,rfl⟩:=h1
   rw [h2,h3]
theorem qvg {Q:List Ent->Prop} (af:AF) (H:List Ent):defq Q .nrm af H = (af.dl = []∧Q H):=rfl
theorem qu4 {Q:List Ent->Prop} (af:AF) (H:List Ent):defq Q .ret af H = (af.dl = []∧Q H):=rfl
theorem qbms {e1 e2 e3 e4:Ent} {K:List Ent->Prop} (hq:K [e1,e2,e3,e4,.blk [.int .i64 0]]):qrh Tryz.prog 52 .nili [e1,e2,e3,e4] [.ptr 2 0,.ptr 3 0] K:=by
 refine qve c0dk (by simp) ?_
 unfold kf_l
 simp only [qbq,put]
 rw [qbch]
 simp only [evv,gt,V.get,if_true]
 simp only [tyav,q4t,qbbt]
 simp only [go_sem,↓reduceIte]
 unfold kf qbgn
 repeat' (first | refine vs_ ?_ | ((first | refine vr_ ?_ | fail)<;>(try simp only [qvg,qu4,go_sem,↓reduceIte])) | ((first | (refine cs_ ?_ ?_<;>intro hc) | refine cj_ ?_ | simp (disch:=omega) only [encs_getN,qb])<;>(try refine ev_ ?_)) | with_reducible exact ti_)
 all_goals first | exact ⟨rfl,hq⟩ | exact hq | trace_state
theorem q57 {e1 e2 e3:Ent} {c:Int} {K:List Ent->Prop} (hq:K [e1,e2,.blk [.int .i64 0,.int .i64 0,.nils,.nils],.blk [.int .i64 c],.blk [.int .i64 c]]):qrh Tryz.prog 52 (qboe c) [e1,e2,.blk [.int .i64 0,.int .i64 0,.nils,.nils],.blk [.int .i64 0]] [.ptr 2 0,.ptr 3 0] K:=by
 refine qve c0dk (by simp) ?_
 unfold kf_l qboe
 simp only [go_sem,qbq,↓reduceIte]
 unfold kf qbgn qb2a
 repeat' (first | refine vs_ ?_ | ((first | refine vr_ ?_ | fail)<;>(try simp only [qvg,qu4,go_sem,↓reduceIte])) | ((first | (refine cs_ ?_ ?_<;>intro hc) | refine cj_ ?_ | simp (disch:=omega) only [encs_getN,qb])<;>(try refine ev_ ?_)) | with_reducible exact ti_)
 all_goals first | exact ⟨rfl,hq⟩ | exact hq | trace_state

theorem q21 (l:List Ins) (p:Pd):byI l p = (0,[],false)∨∃ j,j < l.length∧(l.getD j I0).cls = p.cls∧(l.getD j I0).con = p.ty.con∧p.ty.con≠[]∧(l.getD j I0).n = p.ty.args.length∧(fndI p.cls p.ty.con l 0).2 = true∧(fndI p.cls p.ty.con l 0).1 = j∧byI l p = ((j:Int),(prdR (qcv p.ty.args 0 []) [] (l.getD j I0).ps).1,true):=by
 cases hf:(fndI p.cls p.ty.con l 0).2 with
 | false=>exact .inl (q0y hf)
 | true =>
   obtain ⟨j,hj,hjl,hj1,hj2⟩:=qs0 l 0 hf
   rw [Nat.zero_add] at hj
   by_cases hc:p.ty.con = []
   ·exact .inl (q15 hc)
   by_cases hn:(l.getD j I0).n = p.ty.args.length
   case neg=>exact .inl (q3d hj hn)
   exact .inr ⟨j,hjl,hj1,hj2,hc,hn,rfl,hj,qsq hf hj hc hn⟩
theorem qtb {e:Env} (h:sndE e = true):∀ x∈e.is,chkI x = 0:=fun x hx=>by
 rw [sndE,Bool.and_eq_true] at h
 have h2:(e.is.any fun x=>!decide (chkI x = 0)) = false:=by simpa using h.2
 rw [List.any_eq_false] at h2
 simpa using h2 x hx
theorem qia {p:Pd} (h:q7 p = true):qv p.ty = true:=by
 rw [q7,Bool.and_eq_true] at h;exact h.2
def wntE (x:Ins) (t:Ty):List Pd:=x.ps.map fun q=>⟨q.cls,t.args.getD q.ty.var.toNat Y0⟩
theorem qwl {e:Env} (hs:sndE e = true) {p:Pd} (hp:qv p.ty = true):byI e.is p = (0,[],false)∨∃ j,j < e.is.length∧(e.is.getD j I0).cls = p.cls∧(e.is.getD j I0).con = p.ty.con∧p.ty.con≠[]∧(e.is.getD j I0).n = p.ty.args.length∧(fndI p.cls p.ty.con e.is 0).2 = true∧(fndI p.cls p.ty.con e.is 0).1 = j∧byI e.is p = ((j:Int),wntE (e.is.getD j I0) p.ty,true):=by
 rcases q21 e.is p with h | ⟨j,hj,h1,h2,h3,h4,h5,h6,h7⟩
 ·exact .inl h
 ·refine .inr ⟨j,hj,h1,h2,h3,h4,h5,h6,?_⟩
  rw [h7,(qwb (qtb hs _ (qdy hj)) hp h4).1]
  rfl
theorem q0m {x:Ins} (h:chkI x = 0):∀ q∈x.ps,plnI x.n q = true:=by
 rw [chkI] at h
 split at h
 ·rename_i h1;exact fun q hq=>List.all_eq_true.1 h1.2 q hq
 ·cases h
theorem qbu0 {x:Ins} {t:Ty} (h:chkI x = 0) (ht:qv t = true) (hn:x.n = t.args.length):∀ q∈wntE x t,q7 q = true∧dpY q.ty < dpY t:=fun q hq=>by
 rw [wntE,List.mem_map] at hq
 obtain ⟨a,ha,rfl⟩:=hq
 have hp:=q0m h a ha
 obtain ⟨q1,q2,q3⟩:=qpw hp
 have hm:=qbi (l:=t.args) (i:=a.ty.var.toNat) (by omega)
 have hc:conW a.cls = true:=by
  simp only [plnI,Bool.and_eq_true] at hp
  exact hp.1
 refine ⟨by rw [q7,Bool.and_eq_true];exact ⟨hc,qh3 ht hm⟩,?_⟩
 have:=qkh hm
 rw [qnf t];dsimp only;omega
theorem qbsu {e:Env} (hs:sndE e = true) (hl:∀ x∈e.is,x.ps.length≤1000):smW e:=fun p hp=>by
 rcases qwl hs (qia hp) with h | ⟨j,hj,_,_,_,h4,_,_,h7⟩
 ·rw [h];exact ⟨by simp,fun q hq=>by cases hq⟩
 ·rw [h7]
  refine ⟨?_,qbu0 (qtb hs _ (qdy hj)) (qia hp) h4⟩
  show (wntE _ _).length≤1000
  rw [wntE,List.length_map]
  exact hl _ (qdy hj)
theorem qkd {cs:List Cls} {p:Pd}:∀ (g:List Pd) (i:Nat),(supF cs p g i).isSome = true ↔ ∃ q∈g,q.ty = p.ty∧(pthC cs q.cls p.cls).2 = true
 | [],i=>by simp [supF]
 | q :: r, i => by
   have ih:=qkd (cs:=cs) (p:=p) r (i + 1)
   rw [supF]
   by_cases h1:qgj q.ty p.ty = true
   ·rw [if_pos h1]
    have h1:=(qj2 _ _).1 h1
    by_cases h2:(pthC cs q.cls p.cls).2 = true
    ·rw [if_pos h2]
     exact ⟨fun _=>⟨q,by simp,h1,h2⟩,fun _=>rfl⟩
    ·rw [if_neg h2,ih]
     constructor
     ·rintro ⟨a,b,c⟩;exact ⟨a,by simp [b],c⟩
     ·rintro ⟨a,b,c,d⟩
      rcases List.mem_cons.1 b with rfl | b
      ·exact absurd d h2
      ·exact ⟨a,b,c,d⟩
   ·rw [if_neg h1,ih]
    have h1:q.ty≠p.ty:=fun hh=>h1 ((qj2 _ _).2 hh)
    constructor
    ·rintro ⟨a,b,c⟩;exact ⟨a,by simp [b],c⟩
    ·rintro ⟨a,b,c,d⟩
     rcases List.mem_cons.1 b with rfl | b
     ·exact absurd c h1
     ·exact ⟨a,b,c,d⟩
def isOk {α:Type} (r:Except Int α):Prop:=∃ x,r = .ok x
def okE {α:Type} (r:Except Int α):Prop:=(∃ x,r = .ok x)∨r = .error 2
theorem qre {r1 r2:Pd->Except Int (Prf×Int)} {φ:Pd->Pd}:∀ (l:List Pd) (ks ks':List Prf) (n n':Int),(∀ q∈l,isOk (r1 q)->okE (r2 (φ q)))->isOk (srcL r1 l ks n)->okE (srcL r2 (l.map φ) ks' n')
 | [],ks,ks',n,n',_,_=>.inl ⟨_,by rw [List.map_nil,srcL]⟩
 | q :: r, ks, ks', n, n', h, ⟨x, hx⟩ => by
   rw [srcL] at hx
   rw [List.map_cons,srcL]
   have h1:=h q (by simp)
   cases hq:r1 q with
   | error c=>rw [hq] at hx;cases hx
   | ok y =>
     obtain ⟨y,m⟩:=y
     rw [hq] at hx
     dsimp only at hx
     rcases h1 ⟨_,hq⟩ with ⟨⟨z,k⟩,hz⟩ | hz
     ·rw [hz]
      dsimp only
      split at hx
      ·cases hx
      ·split
       ·exact .inr rfl
       ·exact qre r _ _ _ _ (fun a ha=>h a (by simp [ha])) ⟨x,hx⟩
     ·rw [hz];exact .inr rfl
theorem qu7 {e:Env} {g g':List Pd} {φ:Pd->Pd} (G:Pd->Prop)
 (hs:∀ p,G p->(supF e.cs p g 0).isSome = true->(supF e.cs (φ p) g' 0).isSome = true)
 (hb:∀ p,G p->(byI e.is p).2.2 = true->(byI e.is (φ p)).2.2 = true∧(byI e.is (φ p)).2.1 = (byI e.is p).2.1.map φ∧∀ q∈(byI e.is p).2.1,G q) :
 ∀ f f' p,G p->f≤f'->isOk (srcF e g f p)->okE (srcF e g' f' (φ p))
 | 0,f',p,_,_,⟨x,hx⟩=>by cases hx
 | f + 1, f', p, hG, hf, ⟨x, hx⟩ => by
   obtain ⟨f',rfl⟩:∃ k,f' = k + 1:=⟨f' - 1,by omega⟩
   rw [srcF] at hx
   rw [srcF]
   cases hS:supF e.cs (φ p) g' 0 with
   | some y=>exact .inl ⟨_,rfl⟩
   | none =>
     dsimp only
     cases hs0:supF e.cs p g 0 with
     | some y =>
       have:=hs p hG (by rw [hs0];rfl)
       rw [hS] at this;cases this
     | none =>
       rw [hs0] at hx
       dsimp only at hx
       by_cases hk:(byI e.is p).2.2 = true
       ·obtain ⟨b1,b2,b3⟩:=hb p hG hk
        rw [if_pos hk] at hx
        rw [if_pos b1,b2]
        cases hl:srcL (srcF e g f) (byI e.is p).2.1 [] 1 with
        | error c=>rw [hl] at hx;cases hx
        | ok y =>
          rcases qre (r2:=srcF e g' f') (φ:=φ) _ [] [] 1 1 (fun q hq hok=>qu7 G hs hb f f' q (b3 q hq) (by omega) hok) ⟨y,hl⟩ with ⟨z,hz⟩ | hz
          ·rw [hz];exact .inl ⟨_,rfl⟩
          ·rw [hz];exact .inr rfl
       ·rw [if_neg hk] at hx;cases hx
theorem qu0 {r1:Pd->Except Int (Prf×Int)} (h:∀ q c,r1 q = .error c->c = 2∨c = 16):∀ (l:List Pd) (ks:List Prf) (n c:Int),srcL r1 l ks n = .error c->c = 2∨c = 16
 | [],ks,n,c,hx=>by cases hx
 | q :: r, ks, n, c, hx => by
   rw [srcL] at hx
   cases hq:r1 q with
   | error d =>
     rw [hq] at hx
     simp only [Except.error.injEq] at hx
     subst hx
     exact h q _ hq
   | ok y =>
     rw [hq] at hx
     dsimp only at hx
     split at hx
     ·simp only [Except.error.injEq] at hx;omega
     ·exact qu0 h r _ _ c hx
theorem qwm {e:Env} {g:List Pd}:∀ (f:Nat) (p:Pd) (c:Int),srcF e g f p = .error c->c = 2∨c = 16
 | 0,p,c,hx=>by rw [srcF] at hx;simp only [Except.error.injEq] at hx;omega
 | f + 1, p, c, hx => by
   rw [srcF] at hx
   split at hx
   ·cases hx
   ·split at hx
    ·split at hx
     ·rename_i d hl
      simp only [Except.error.injEq] at hx
      subst hx
      exact qu0 (qwm f) _ _ _ _ hl
     ·cases hx
    ·simp only [Except.error.injEq] at hx;omega
def fndW (r:Except Int (Prf×Int)):Prf×Int:=match r with
 | .ok (x,_)=>(x,0)
 | .error c=>(Pf0,c)
def byW (e:Env) (g:List Pd) (p:Pd):Prf×Int :=
 if q7 p = true∧g.all q7 = true∧sndE e = true then fndW (srcF e g 101 p) else (Pf0,1)
theorem qzs {e:Env} {g:List Pd} {p:Pd} (h:(byW e g p).2 = 0):(q7 p = true∧g.all q7 = true∧sndE e = true)∧isOk (srcF e g 101 p):=by
 rw [byW] at h
 split at h
 ·rename_i h1
  refine ⟨h1,?_⟩
  cases hr:srcF e g 101 p with
  | ok x=>exact ⟨x,rfl⟩
  | error c =>
    rw [hr] at h
    have:=qwm _ _ _ hr
    simp only [fndW] at h
    omega
 ·cases h
theorem qby6 {e:Env} {g:List Pd} {p:Pd} (h1:q7 p = true) (h2:g.all q7 = true) (h3:sndE e = true) (h:okE (srcF e g 101 p)):(byW e g p).2 = 0∨(byW e g p).2 = 2:=by
 rw [byW,if_pos ⟨h1,h2,h3⟩]
 rcases h with ⟨⟨x,n⟩,hx⟩ | hx
 ·rw [hx];exact .inl rfl
 ·rw [hx];exact .inr rfl
mutual
def putT (t:Ty):Ty->Ty
 | .mk c v l=>if c = []∧v = 0 then t else .mk c v (qcb t l)
def qcb (t:Ty):List Ty->List Ty
 | []=>[]
 | x :: r=>putT t x :: qcb t r
end
theorem qfy (t:Ty):∀ l,qcb t l = l.map (putT t)
 | []=>by rw [qcb];rfl
 | x :: r=>by rw [qcb,qfy t r];rfl
theorem q47 {t u:Ty} (h:u.con≠[]):(putT t u).con = u.con∧(putT t u).var = u.var∧(putT t u).args = u.args.map (putT t):=by
 cases u with
 | mk c v l =>
   have h:¬ (c = []∧v = 0):=fun hh=>h hh.1
   rw [putT,if_neg h,qfy]
   exact ⟨rfl,rfl,rfl⟩
def wthP (t:Ty) (p:Pd):Pd:=⟨p.cls,putT t p.ty⟩
theorem q44 {e:Env} {g:List Pd} {p:Pd} {t:Ty} (hl:q7 (wthP t p) = true) (hg:(g.map (wthP t)).all q7 = true) (h:(byW e g p).2 = 0):(byW e (g.map (wthP t)) (wthP t p)).2 = 0∨(byW e (g.map (wthP t)) (wthP t p)).2 = 2:=by
 obtain ⟨⟨h1,h2,h3⟩,hok⟩:=qzs h
 refine qby6 hl hg h3 (qu7 (φ:=wthP t) (fun p=>qv p.ty = true∧qv (putT t p.ty) = true) (fun p hp hs=>?_) (fun p hp hb=>?_) 101 101 p ⟨qia h1,qia hl⟩ (Nat.le_refl _) hok)
 ·obtain ⟨q,hq,a,b⟩:=(qkd _ _).1 hs
  exact (qkd _ _).2 ⟨wthP t q,List.mem_map_of_mem hq,by simp only [wthP,a],b⟩
 ·obtain ⟨p1,p2⟩:=hp
  rcases qwl h3 p1 with h | ⟨j,hj,a1,a2,a3,a4,a5,a6,a7⟩
  ·rw [h] at hb;cases hb
  ·obtain ⟨c1,c2,c3⟩:=q47 (t:=t) a3
   have hck:=qtb h3 _ (qdy hj)
   have hq:byI e.is (wthP t p) = ((j:Int),wntE (e.is.getD j I0) (putT t p.ty),true):=by
    have hc1:(wthP t p).ty.con = p.ty.con:=c1
    have hn:(e.is.getD j I0).n = (wthP t p).ty.args.length:=by
     show _ = (((putT t p.ty).args.length:Nat):Int)
     rw [c3,List.length_map];exact a4
    have hy:=qsq (p:=wthP t p) (j:=j) (l:=e.is) (by rw [hc1];exact a5) (by rw [hc1];exact a6) (by rw [hc1];exact a3) hn
    rw [hy,show (wthP t p).ty = putT t p.ty from rfl,(qwb hck p2 hn).1]
    rfl
   refine ⟨by rw [hq],?_,?_⟩
   ·rw [hq,a7]
    simp only [wntE,List.map_map]
    refine List.map_congr_left fun q hq=>?_
    obtain ⟨q1,q2,q3⟩:=qpw (q0m hck q hq)
    have hlt:q.ty.var.toNat < p.ty.args.length:=by omega
    simp only [Function.comp_apply,wthP,c3]
    rw [List.getD_eq_getElem?_getD,List.getD_eq_getElem?_getD,List.getElem?_map,List.getElem?_eq_getElem hlt]
    rfl
   ·rw [a7]
    intro q hq
    have hq:q∈wntE (e.is.getD j I0) p.ty:=hq
    rw [wntE,List.mem_map] at hq
    obtain ⟨a,ha,rfl⟩:=hq
    obtain ⟨q1,q2,q3⟩:=qpw (q0m hck a ha)
    have hlt:a.ty.var.toNat < p.ty.args.length:=by omega
    refine ⟨qh3 p1 (qbi hlt),qh3 p2 ?_⟩
    rw [c3]
    exact List.mem_map_of_mem (qbi hlt)
end Go.Proofs.YtgglaabljlhliaaGreat
