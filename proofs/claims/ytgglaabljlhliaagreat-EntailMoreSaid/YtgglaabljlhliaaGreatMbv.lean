/- Texts of this proof, joined. -/
import Derived.Test.YtgglaabljlhliaaGreatMbu
set_option linter.unusedVariables false
set_option linter.unusedSimpArgs false

/- what follows: who gives up is caught -/
set_option maxRecDepth 4000
namespace Go.Proofs.YtgglaabljlhliaaGreat
open Go Go.RowKit Go.V

def qbmf:IC:=.reg false [⟨none,some 9,.v (.mov (.t 3))⟩]
def qb06:IC:=.drw [(⟨none,some 10,.v (.bld [(.int .i64 0),(.int .i64 0),.nils,.nils] [])⟩,[]),(⟨none,some 11,.v (.fad (.t 2) 0)⟩,[]),(⟨none,some 12,.v (.ld false 1 (.t 11))⟩,[]),(⟨none,none,.st 4 (.agg [.id,.id,(.sl 3),(.sl 4)]) (.t 0) (.t 10)⟩,[2]),(⟨none,none,.st 1 .id (.t 1) (.t 12)⟩,[])]
def kf_l:List GI:=[⟨none,some 6,.v (.tya 100 (.agg [(.int .i64 0)]) (.t 5))⟩,⟨none,some 4,.v (.mov (.t 6))⟩,⟨none,some 7,.v (.ext (.t 4) 0)⟩,⟨none,some 8,.v (.ext (.t 4) 1)⟩,⟨none,some 2,.alo [(.int .i64 0)]⟩,⟨none,none,.st 1 (.agg [.id]) (.t 2) (.t 7)⟩,⟨none,some 3,.v (.mov (.t 8))⟩]
def kf:IC:=.seq qbmf (.cond (.t 9) qb06 .skip)
theorem c0dh:(qph Tryz.prog 52).map (fun p=>(p.1,p.2.1)) = some (13,5):=by kernel_rfl
theorem c0di:(qph Tryz.prog 52).map (fun p=>p.2.2.1) = some kf_l:=by kernel_rfl
theorem c0dj:(qph Tryz.prog 52).map (fun p=>p.2.2.2) = some kf:=by kernel_rfl
theorem c0dk:qph Tryz.prog 52 = some (13,5,kf_l,kf):=by
 have h1:=c0dh
 have h2:=c0di
 have h3:=c0dj
 cases h:qph Tryz.prog 52 with
 | none=>rw [h] at h1;cases h1
 | some p =>
   obtain ⟨a,b,c,d⟩:=p
   rw [h] at h1 h2 h3
   simp only [Option.map_some,Option.some.injEq,Prod.mk.injEq] at h1 h2 h3
   obtain ⟨rfl,rfl⟩:=h1
   rw [h2,h3]
theorem qv1 {Q:List Ent->Prop} (af:AF) (H:List Ent):defq Q .nrm af H = (af.dl = []∧Q H):=rfl
theorem qwa {Q:List Ent->Prop} (af:AF) (H:List Ent):defq Q .ret af H = (af.dl = []∧Q H):=rfl
theorem qbqe {e1 e2 e3 e4:Ent} {K:List Ent->Prop} (hq:K [e1,e2,e3,e4,.blk [.int .i64 0]]):qq4 Tryz.prog 52 .nili [e1,e2,e3,e4] [.ptr 2 0,.ptr 3 0] K:=by
 refine qv8 c0dk (by simp) ?_
 unfold kf_l
 simp only [qbl,put]
 rw [qbbl]
 simp only [evv,gt,V.get,if_true]
 simp only [tyav,q34,qbbz]
 simp only [go_sem,↓reduceIte]
 unfold kf qbmf
 repeat' (first | refine vs_ ?_ | ((first | refine vr_ ?_ | fail)<;>(try simp only [qv1,qwa,go_sem,↓reduceIte])) | ((first | (refine cs_ ?_ ?_<;>intro hc) | refine cj_ ?_ | simp (disch:=omega) only [encs_getN,qb])<;>(try refine ev_ ?_)) | with_reducible exact ti_)
 all_goals first | exact ⟨rfl,hq⟩ | exact hq | trace_state
theorem qbbh {e1 e2 e3:Ent} {c:Int} {K:List Ent->Prop} (hq:K [e1,e2,.blk [.int .i64 0,.int .i64 0,.nils,.nils],.blk [.int .i64 c],.blk [.int .i64 c]]):qq4 Tryz.prog 52 (qbhb c) [e1,e2,.blk [.int .i64 0,.int .i64 0,.nils,.nils],.blk [.int .i64 0]] [.ptr 2 0,.ptr 3 0] K:=by
 refine qv8 c0dk (by simp) ?_
 unfold kf_l qbhb
 simp only [go_sem,qbl,↓reduceIte]
 unfold kf qbmf qb06
 repeat' (first | refine vs_ ?_ | ((first | refine vr_ ?_ | fail)<;>(try simp only [qv1,qwa,go_sem,↓reduceIte])) | ((first | (refine cs_ ?_ ?_<;>intro hc) | refine cj_ ?_ | simp (disch:=omega) only [encs_getN,qb])<;>(try refine ev_ ?_)) | with_reducible exact ti_)
 all_goals first | exact ⟨rfl,hq⟩ | exact hq | trace_state

theorem q2z (l:List Ins) (p:Pd):byI l p = (0,[],false)∨∃ j,j < l.length∧(l.getD j I0).cls = p.cls∧(l.getD j I0).con = p.ty.con∧p.ty.con≠[]∧(l.getD j I0).n = p.ty.args.length∧(fndI p.cls p.ty.con l 0).2 = true∧(fndI p.cls p.ty.con l 0).1 = j∧byI l p = ((j:Int),(prdR (qcz p.ty.args 0 []) [] (l.getD j I0).ps).1,true):=by
 cases hf:(fndI p.cls p.ty.con l 0).2 with
 | false=>exact .inl (q1s hf)
 | true =>
   obtain ⟨j,hj,hjl,hj1,hj2⟩:=qti l 0 hf
   rw [Nat.zero_add] at hj
   by_cases hc:p.ty.con = []
   ·exact .inl (q2s hc)
   by_cases hn:(l.getD j I0).n = p.ty.args.length
   case neg=>exact .inl (q4a hj hn)
   exact .inr ⟨j,hjl,hj1,hj2,hc,hn,rfl,hj,q4h hf hj hc hn⟩
theorem q10 {e:Env} (h:sndE e = true):∀ x∈e.is,chkI x = 0:=fun x hx=>by
 rw [sndE,Bool.and_eq_true] at h
 have h2:(e.is.any fun x=>!decide (chkI x = 0)) = false:=by simpa using h.2
 rw [List.any_eq_false] at h2
 simpa using h2 x hx
theorem qsa {p:Pd} (h:qbk p = true):qx p.ty = true:=by
 rw [qbk,Bool.and_eq_true] at h;exact h.2
def wntE (x:Ins) (t:Ty):List Pd:=x.ps.map fun q=>⟨q.cls,t.args.getD q.ty.var.toNat Y0⟩
theorem q83 {e:Env} (hs:sndE e = true) {p:Pd} (hp:qx p.ty = true):byI e.is p = (0,[],false)∨∃ j,j < e.is.length∧(e.is.getD j I0).cls = p.cls∧(e.is.getD j I0).con = p.ty.con∧p.ty.con≠[]∧(e.is.getD j I0).n = p.ty.args.length∧(fndI p.cls p.ty.con e.is 0).2 = true∧(fndI p.cls p.ty.con e.is 0).1 = j∧byI e.is p = ((j:Int),wntE (e.is.getD j I0) p.ty,true):=by
 rcases q2z e.is p with h | ⟨j,hj,h1,h2,h3,h4,h5,h6,h7⟩
 ·exact .inl h
 ·refine .inr ⟨j,hj,h1,h2,h3,h4,h5,h6,?_⟩
  rw [h7,(q6k (q10 hs _ (qef hj)) hp h4).1]
  rfl
theorem qb2w {x:Ins} (h:chkI x = 0):∀ q∈x.ps,plnI x.n q = true:=by
 rw [chkI] at h
 split at h
 ·rename_i h1;exact fun q hq=>List.all_eq_true.1 h1.2 q hq
 ·cases h
theorem qb2k {x:Ins} {t:Ty} (h:chkI x = 0) (ht:qx t = true) (hn:x.n = t.args.length):∀ q∈wntE x t,qbk q = true∧dpY q.ty < dpY t:=fun q hq=>by
 rw [wntE,List.mem_map] at hq
 obtain ⟨a,ha,rfl⟩:=hq
 have hp:=qb2w h a ha
 obtain ⟨q1,q2,q3⟩:=q2g hp
 have hm:=qbv (l:=t.args) (i:=a.ty.var.toNat) (by omega)
 have hc:conW a.cls = true:=by
  simp only [plnI,Bool.and_eq_true] at hp
  exact hp.1
 refine ⟨by rw [qbk,Bool.and_eq_true];exact ⟨hc,qp1 ht hm⟩,?_⟩
 have:=qls hm
 rw [qpp t];dsimp only;omega
theorem qbe7 {e:Env} (hs:sndE e = true) (hl:∀ x∈e.is,x.ps.length≤1000):smW e:=fun p hp=>by
 rcases q83 hs (qsa hp) with h | ⟨j,hj,_,_,_,h4,_,_,h7⟩
 ·rw [h];exact ⟨by simp,fun q hq=>by cases hq⟩
 ·rw [h7]
  refine ⟨?_,qb2k (q10 hs _ (qef hj)) (qsa hp) h4⟩
  show (wntE _ _).length≤1000
  rw [wntE,List.length_map]
  exact hl _ (qef hj)
theorem qj8 {cs:List Cls} {p:Pd}:∀ (g:List Pd) (i:Nat),(supF cs p g i).isSome = true ↔ ∃ q∈g,q.ty = p.ty∧(pthC cs q.cls p.cls).2 = true
 | [],i=>by simp [supF]
 | q :: r, i => by
   have ih:=qj8 (cs:=cs) (p:=p) r (i + 1)
   rw [supF]
   by_cases h1:qgg q.ty p.ty = true
   ·rw [if_pos h1]
    have h1:=(qjx _ _).1 h1
    by_cases h2:(pthC cs q.cls p.cls).2 = true
    ·rw [if_pos h2]
     exact ⟨fun _=>⟨q,by simp,h1,h2⟩,fun _=>rfl⟩
    ·rw [if_neg h2,ih]
     constructor
     ·rintro ⟨a,b,c⟩;exact ⟨a,by simp [b],c⟩
     ·rintro ⟨a,b,c,d⟩
      rcases List.mem_cons.1 b with rfl | b
      ·exact absurd d h2
      ·exact ⟨a,b,c,d⟩
   ·rw [if_neg h1,ih]
    have h1:q.ty≠p.ty:=fun hh=>h1 ((qjx _ _).2 hh)
    constructor
    ·rintro ⟨a,b,c⟩;exact ⟨a,by simp [b],c⟩
    ·rintro ⟨a,b,c,d⟩
     rcases List.mem_cons.1 b with rfl | b
     ·exact absurd c h1
     ·exact ⟨a,b,c,d⟩
def isOk {α:Type} (r:Except Int α):Prop:=∃ x,r = .ok x
def okE {α:Type} (r:Except Int α):Prop:=(∃ x,r = .ok x)∨r = .error 2
theorem qpq {r1 r2:Pd->Except Int (Prf×Int)} {φ:Pd->Pd}:∀ (l:List Pd) (ks ks':List Prf) (n n':Int),(∀ q∈l,isOk (r1 q)->okE (r2 (φ q)))->isOk (srcL r1 l ks n)->okE (srcL r2 (l.map φ) ks' n')
 | [],ks,ks',n,n',_,_=>.inl ⟨_,by rw [List.map_nil,srcL]⟩
 | q :: r, ks, ks', n, n', h, ⟨x, hx⟩ => by
   rw [srcL] at hx
   rw [List.map_cons,srcL]
   have h1:=h q (by simp)
   cases hq:r1 q with
   | error c=>rw [hq] at hx;cases hx
   | ok y =>
     obtain ⟨y,m⟩:=y
     rw [hq] at hx
     dsimp only at hx
     rcases h1 ⟨_,hq⟩ with ⟨⟨z,k⟩,hz⟩ | hz
     ·rw [hz]
      dsimp only
      split at hx
      ·cases hx
      ·split
       ·exact .inr rfl
       ·exact qpq r _ _ _ _ (fun a ha=>h a (by simp [ha])) ⟨x,hx⟩
     ·rw [hz];exact .inr rfl
theorem qvb {e:Env} {g g':List Pd} {φ:Pd->Pd} (G:Pd->Prop)
 (hs:∀ p,G p->(supF e.cs p g 0).isSome = true->(supF e.cs (φ p) g' 0).isSome = true)
 (hb:∀ p,G p->(byI e.is p).2.2 = true->(byI e.is (φ p)).2.2 = true∧(byI e.is (φ p)).2.1 = (byI e.is p).2.1.map φ∧∀ q∈(byI e.is p).2.1,G q) :
 ∀ f f' p,G p->f≤f'->isOk (srcF e g f p)->okE (srcF e g' f' (φ p))
 | 0,f',p,_,_,⟨x,hx⟩=>by cases hx
 | f + 1, f', p, hG, hf, ⟨x, hx⟩ => by
   obtain ⟨f',rfl⟩:∃ k,f' = k + 1:=⟨f' - 1,by omega⟩
   rw [srcF] at hx
   rw [srcF]
   cases hS:supF e.cs (φ p) g' 0 with
   | some y=>exact .inl ⟨_,rfl⟩
   | none =>
     dsimp only
     cases hs0:supF e.cs p g 0 with
     | some y =>
       have:=hs p hG (by rw [hs0];rfl)
       rw [hS] at this;cases this
     | none =>
       rw [hs0] at hx
       dsimp only at hx
       by_cases hk:(byI e.is p).2.2 = true
       ·obtain ⟨b1,b2,b3⟩:=hb p hG hk
        rw [if_pos hk] at hx
        rw [if_pos b1,b2]
        cases hl:srcL (srcF e g f) (byI e.is p).2.1 [] 1 with
        | error c=>rw [hl] at hx;cases hx
        | ok y =>
          rcases qpq (r2:=srcF e g' f') (φ:=φ) _ [] [] 1 1 (fun q hq hok=>qvb G hs hb f f' q (b3 q hq) (by omega) hok) ⟨y,hl⟩ with ⟨z,hz⟩ | hz
          ·rw [hz];exact .inl ⟨_,rfl⟩
          ·rw [hz];exact .inr rfl
       ·rw [if_neg hk] at hx;cases hx
theorem qwc {r1:Pd->Except Int (Prf×Int)} (h:∀ q c,r1 q = .error c->c = 2∨c = 16):∀ (l:List Pd) (ks:List Prf) (n c:Int),srcL r1 l ks n = .error c->c = 2∨c = 16
 | [],ks,n,c,hx=>by cases hx
 | q :: r, ks, n, c, hx => by
   rw [srcL] at hx
   cases hq:r1 q with
   | error d =>
     rw [hq] at hx
     simp only [Except.error.injEq] at hx
     subst hx
     exact h q _ hq
   | ok y =>
     rw [hq] at hx
     dsimp only at hx
     split at hx
     ·simp only [Except.error.injEq] at hx;omega
     ·exact qwc h r _ _ c hx
theorem qwo {e:Env} {g:List Pd}:∀ (f:Nat) (p:Pd) (c:Int),srcF e g f p = .error c->c = 2∨c = 16
 | 0,p,c,hx=>by rw [srcF] at hx;simp only [Except.error.injEq] at hx;omega
 | f + 1, p, c, hx => by
   rw [srcF] at hx
   split at hx
   ·cases hx
   ·split at hx
    ·split at hx
     ·rename_i d hl
      simp only [Except.error.injEq] at hx
      subst hx
      exact qwc (qwo f) _ _ _ _ hl
     ·cases hx
    ·simp only [Except.error.injEq] at hx;omega
def fndW (r:Except Int (Prf×Int)):Prf×Int:=match r with
 | .ok (x,_)=>(x,0)
 | .error c=>(Pf0,c)
def byW (e:Env) (g:List Pd) (p:Pd):Prf×Int :=
 if qbk p = true∧g.all qbk = true∧sndE e = true then fndW (srcF e g 101 p) else (Pf0,1)
theorem qbbw {e:Env} {g:List Pd} {p:Pd} (h:(byW e g p).2 = 0):(qbk p = true∧g.all qbk = true∧sndE e = true)∧isOk (srcF e g 101 p):=by
 rw [byW] at h
 split at h
 ·rename_i h1
  refine ⟨h1,?_⟩
  cases hr:srcF e g 101 p with
  | ok x=>exact ⟨x,rfl⟩
  | error c =>
    rw [hr] at h
    have:=qwo _ _ _ hr
    simp only [fndW] at h
    omega
 ·cases h
theorem qb1n {e:Env} {g:List Pd} {p:Pd} (h1:qbk p = true) (h2:g.all qbk = true) (h3:sndE e = true) (h:okE (srcF e g 101 p)):(byW e g p).2 = 0∨(byW e g p).2 = 2:=by
 rw [byW,if_pos ⟨h1,h2,h3⟩]
 rcases h with ⟨⟨x,n⟩,hx⟩ | hx
 ·rw [hx];exact .inl rfl
 ·rw [hx];exact .inr rfl
theorem qvs {e:Env} {g g':List Pd} {p:Pd} (hg:∀ q∈g,q∈g') (hl:g'.all qbk = true) (h:(byW e g p).2 = 0):(byW e g' p).2 = 0∨(byW e g' p).2 = 2:=by
 obtain ⟨⟨h1,h2,h3⟩,hok⟩:=qbbw h
 refine qb1n h1 hl h3 (qvb (φ:=id) (fun _=>True) (fun p _ hs=>?_) (fun p _ hb=>?_) 101 101 p trivial (Nat.le_refl _) hok)
 ·obtain ⟨q,hq,a,b⟩:=(qj8 _ _).1 hs
  exact (qj8 _ _).2 ⟨q,hg q hq,a,b⟩
 ·exact ⟨hb,by simp,fun _ _=>trivial⟩
end Go.Proofs.YtgglaabljlhliaaGreat
