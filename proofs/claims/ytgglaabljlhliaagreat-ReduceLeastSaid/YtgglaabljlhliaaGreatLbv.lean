/- Texts of this proof, joined. -/
import Derived.Test.YtgglaabljlhliaaGreatLbu
import Derived.Test.YtgglaabljlhliaaGreatLbi
set_option linter.unusedVariables false
set_option linter.unusedSimpArgs false

/- what follows: who gives up is caught -/
set_option maxRecDepth 4000
namespace Go.Proofs.YtgglaabljlhliaaGreat
open Go Go.RowKit Go.V

def qbms:IC:=.reg false [⟨none,some 9,.v (.mov (.t 3))⟩]
def qbye:IC:=.drw [(⟨none,some 10,.v (.bld [(.int .i64 0),(.int .i64 0),.nils,.nils] [])⟩,[]),(⟨none,some 11,.v (.fad (.t 2) 0)⟩,[]),(⟨none,some 12,.v (.ld false 1 (.t 11))⟩,[]),(⟨none,none,.st 4 (.agg [.id,.id,(.sl 3),(.sl 4)]) (.t 0) (.t 10)⟩,[2]),(⟨none,none,.st 1 .id (.t 1) (.t 12)⟩,[])]
def kf_l:List GI:=[⟨none,some 6,.v (.tya 100 (.agg [(.int .i64 0)]) (.t 5))⟩,⟨none,some 4,.v (.mov (.t 6))⟩,⟨none,some 7,.v (.ext (.t 4) 0)⟩,⟨none,some 8,.v (.ext (.t 4) 1)⟩,⟨none,some 2,.alo [(.int .i64 0)]⟩,⟨none,none,.st 1 (.agg [.id]) (.t 2) (.t 7)⟩,⟨none,some 3,.v (.mov (.t 8))⟩]
def kf:IC:=.seq qbms (.cond (.t 9) qbye .skip)
theorem c0dm:(qrp Tryz.prog 52).map (fun p=>(p.1,p.2.1)) = some (13,5):=by kernel_rfl
theorem c0dn:(qrp Tryz.prog 52).map (fun p=>p.2.2.1) = some kf_l:=by kernel_rfl
theorem c0do:(qrp Tryz.prog 52).map (fun p=>p.2.2.2) = some kf:=by kernel_rfl
theorem c0dp:qrp Tryz.prog 52 = some (13,5,kf_l,kf):=by
 have h1:=c0dm
 have h2:=c0dn
 have h3:=c0do
 cases h:qrp Tryz.prog 52 with
 | none=>rw [h] at h1;cases h1
 | some p =>
   obtain ⟨a,b,c,d⟩:=p
   rw [h] at h1 h2 h3
   simp only [Option.map_some,Option.some.injEq,Prod.mk.injEq] at h1 h2 h3
   obtain ⟨rfl,rfl⟩:=h1
   rw [h2,h3]
theorem qwa {Q:List Ent->Prop} (af:AF) (H:List Ent):defq Q .nrm af H = (af.dl = []∧Q H):=rfl
theorem qvj {Q:List Ent->Prop} (af:AF) (H:List Ent):defq Q .ret af H = (af.dl = []∧Q H):=rfl
theorem qbv2 {e1 e2 e3 e4:Ent} {K:List Ent->Prop} (hq:K [e1,e2,e3,e4,.blk [.int .i64 0]]):qp6 Tryz.prog 52 .nili [e1,e2,e3,e4] [.ptr 2 0,.ptr 3 0] K:=by
 refine qxs c0dp (by simp) ?_
 unfold kf_l
 simp only [qbr,put]
 rw [qbdm]
 simp only [evv,gt,V.get,if_true]
 simp only [tyav,q4y,qbdq]
 simp only [go_sem,↓reduceIte]
 unfold kf qbms
 repeat' (first | refine vs_ ?_ | ((first | refine vr_ ?_ | fail)<;>(try simp only [qwa,qvj,go_sem,↓reduceIte])) | ((first | (refine cs_ ?_ ?_<;>intro hc) | refine cj_ ?_ | simp (disch:=omega) only [encs_getN,qb])<;>(try refine ev_ ?_)) | with_reducible exact ti_)
 all_goals first | exact ⟨rfl,hq⟩ | exact hq | trace_state
theorem qbau {e1 e2 e3:Ent} {c:Int} {K:List Ent->Prop} (hq:K [e1,e2,.blk [.int .i64 0,.int .i64 0,.nils,.nils],.blk [.int .i64 c],.blk [.int .i64 c]]):qp6 Tryz.prog 52 (qbgh c) [e1,e2,.blk [.int .i64 0,.int .i64 0,.nils,.nils],.blk [.int .i64 0]] [.ptr 2 0,.ptr 3 0] K:=by
 refine qxs c0dp (by simp) ?_
 unfold kf_l qbgh
 simp only [go_sem,qbr,↓reduceIte]
 unfold kf qbms qbye
 repeat' (first | refine vs_ ?_ | ((first | refine vr_ ?_ | fail)<;>(try simp only [qwa,qvj,go_sem,↓reduceIte])) | ((first | (refine cs_ ?_ ?_<;>intro hc) | refine cj_ ?_ | simp (disch:=omega) only [encs_getN,qb])<;>(try refine ev_ ?_)) | with_reducible exact ti_)
 all_goals first | exact ⟨rfl,hq⟩ | exact hq | trace_state

theorem qr6 (l:List Ins) (p:Pd):byI l p = (0,[],false)∨∃ j,j < l.length∧(l.getD j I0).cls = p.cls∧(l.getD j I0).con = p.ty.con∧p.ty.con≠[]∧(l.getD j I0).n = p.ty.args.length∧(fndI p.cls p.ty.con l 0).2 = true∧(fndI p.cls p.ty.con l 0).1 = j∧byI l p = ((j:Int),(prdR (qc3 p.ty.args 0 []) [] (l.getD j I0).ps).1,true):=by
 cases hf:(fndI p.cls p.ty.con l 0).2 with
 | false=>exact .inl (q57 hf)
 | true =>
   obtain ⟨j,hj,hjl,hj1,hj2⟩:=qt2 l 0 hf
   rw [Nat.zero_add] at hj
   by_cases hc:p.ty.con = []
   ·exact .inl (q07 hc)
   by_cases hn:(l.getD j I0).n = p.ty.args.length
   case neg=>exact .inl (q0f hj hn)
   exact .inr ⟨j,hjl,hj1,hj2,hc,hn,rfl,hj,q51 hf hj hc hn⟩
theorem qlw {e:Env} (h:sndE e = true):∀ x∈e.is,chkI x = 0:=fun x hx=>by
 rw [sndE,Bool.and_eq_true] at h
 have h2:(e.is.any fun x=>!decide (chkI x = 0)) = false:=by simpa using h.2
 rw [List.any_eq_false] at h2
 simpa using h2 x hx
theorem qdm {p:Pd} (h:qbn p = true):qba p.ty = true:=by
 rw [qbn,Bool.and_eq_true] at h;exact h.2
def wntE (x:Ins) (t:Ty):List Pd:=x.ps.map fun q=>⟨q.cls,t.args.getD q.ty.var.toNat Y0⟩
theorem qj1 {e:Env} (hs:sndE e = true) {p:Pd} (hp:qba p.ty = true):byI e.is p = (0,[],false)∨∃ j,j < e.is.length∧(e.is.getD j I0).cls = p.cls∧(e.is.getD j I0).con = p.ty.con∧p.ty.con≠[]∧(e.is.getD j I0).n = p.ty.args.length∧(fndI p.cls p.ty.con e.is 0).2 = true∧(fndI p.cls p.ty.con e.is 0).1 = j∧byI e.is p = ((j:Int),wntE (e.is.getD j I0) p.ty,true):=by
 rcases qr6 e.is p with h | ⟨j,hj,h1,h2,h3,h4,h5,h6,h7⟩
 ·exact .inl h
 ·refine .inr ⟨j,hj,h1,h2,h3,h4,h5,h6,?_⟩
  rw [h7,(qbbn (qlw hs _ (qcq hj)) hp h4).1]
  rfl
theorem qb54 {x:Ins} (h:chkI x = 0):∀ q∈x.ps,plnI x.n q = true:=by
 rw [chkI] at h
 split at h
 ·rename_i h1;exact fun q hq=>List.all_eq_true.1 h1.2 q hq
 ·cases h
theorem q3b {x:Ins} {t:Ty} (h:chkI x = 0) (ht:qba t = true) (hn:x.n = t.args.length):∀ q∈wntE x t,qbn q = true∧dpY q.ty < dpY t:=fun q hq=>by
 rw [wntE,List.mem_map] at hq
 obtain ⟨a,ha,rfl⟩:=hq
 have hp:=qb54 h a ha
 obtain ⟨q1,q2,q3⟩:=q4z hp
 have hm:=qb2 (l:=t.args) (i:=a.ty.var.toNat) (by omega)
 have hc:conW a.cls = true:=by
  simp only [plnI,Bool.and_eq_true] at hp
  exact hp.1
 refine ⟨by rw [qbn,Bool.and_eq_true];exact ⟨hc,qq1 ht hm⟩,?_⟩
 have:=qkh hm
 rw [qsj t];dsimp only;omega
theorem q1y {e:Env} (hs:sndE e = true) (hl:∀ x∈e.is,x.ps.length≤1000):smW e:=fun p hp=>by
 rcases qj1 hs (qdm hp) with h | ⟨j,hj,_,_,_,h4,_,_,h7⟩
 ·rw [h];exact ⟨by simp,fun q hq=>by cases hq⟩
 ·rw [h7]
  refine ⟨?_,q3b (qlw hs _ (qcq hj)) (qdm hp) h4⟩
  show (wntE _ _).length≤1000
  rw [wntE,List.length_map]
  exact hl _ (qcq hj)
theorem qf4 {cs:List Cls} {p:Pd}:∀ (g:List Pd) (i:Nat),(supF cs p g i).isSome = true ↔ ∃ q∈g,q.ty = p.ty∧(pthC cs q.cls p.cls).2 = true
 | [],i=>by simp [supF]
 | q :: r, i => by
   have ih:=qf4 (cs:=cs) (p:=p) r (i + 1)
   rw [supF]
   by_cases h1:qe8 q.ty p.ty = true
   ·rw [if_pos h1]
    have h1:=(qh6 _ _).1 h1
    by_cases h2:(pthC cs q.cls p.cls).2 = true
    ·rw [if_pos h2]
     exact ⟨fun _=>⟨q,by simp,h1,h2⟩,fun _=>rfl⟩
    ·rw [if_neg h2,ih]
     constructor
     ·rintro ⟨a,b,c⟩;exact ⟨a,by simp [b],c⟩
     ·rintro ⟨a,b,c,d⟩
      rcases List.mem_cons.1 b with rfl | b
      ·exact absurd d h2
      ·exact ⟨a,b,c,d⟩
   ·rw [if_neg h1,ih]
    have h1:q.ty≠p.ty:=fun hh=>h1 ((qh6 _ _).2 hh)
    constructor
    ·rintro ⟨a,b,c⟩;exact ⟨a,by simp [b],c⟩
    ·rintro ⟨a,b,c,d⟩
     rcases List.mem_cons.1 b with rfl | b
     ·exact absurd c h1
     ·exact ⟨a,b,c,d⟩
def isOk {α:Type} (r:Except Int α):Prop:=∃ x,r = .ok x
theorem qv4 {r1:Pd->Except Int (Prf×Int)} (h:∀ q c,r1 q = .error c->c = 2∨c = 16):∀ (l:List Pd) (ks:List Prf) (n c:Int),srcL r1 l ks n = .error c->c = 2∨c = 16
 | [],ks,n,c,hx=>by cases hx
 | q :: r, ks, n, c, hx => by
   rw [srcL] at hx
   cases hq:r1 q with
   | error d =>
     rw [hq] at hx
     simp only [Except.error.injEq] at hx
     subst hx
     exact h q _ hq
   | ok y =>
     rw [hq] at hx
     dsimp only at hx
     split at hx
     ·simp only [Except.error.injEq] at hx;omega
     ·exact qv4 h r _ _ c hx
theorem qw3 {e:Env} {g:List Pd}:∀ (f:Nat) (p:Pd) (c:Int),srcF e g f p = .error c->c = 2∨c = 16
 | 0,p,c,hx=>by rw [srcF] at hx;simp only [Except.error.injEq] at hx;omega
 | f + 1, p, c, hx => by
   rw [srcF] at hx
   split at hx
   ·cases hx
   ·split at hx
    ·split at hx
     ·rename_i d hl
      simp only [Except.error.injEq] at hx
      subst hx
      exact qv4 (qw3 f) _ _ _ _ hl
     ·cases hx
    ·simp only [Except.error.injEq] at hx;omega
def fndW (r:Except Int (Prf×Int)):Prf×Int:=match r with
 | .ok (x,_)=>(x,0)
 | .error c=>(Pf0,c)
def byW (e:Env) (g:List Pd) (p:Pd):Prf×Int :=
 if qbn p = true∧g.all qbn = true∧sndE e = true then fndW (srcF e g 101 p) else (Pf0,1)
theorem qbds {e:Env} {g:List Pd} {p:Pd} (h:(byW e g p).2 = 0):(qbn p = true∧g.all qbn = true∧sndE e = true)∧isOk (srcF e g 101 p):=by
 rw [byW] at h
 split at h
 ·rename_i h1
  refine ⟨h1,?_⟩
  cases hr:srcF e g 101 p with
  | ok x=>exact ⟨x,rfl⟩
  | error c =>
    rw [hr] at h
    have:=qw3 _ _ _ hr
    simp only [fndW] at h
    omega
 ·cases h
set_option maxRecDepth 4000

def fndA (x:Prf×Int):AV:=.tup [qb1 x.1,.int .i64 x.2]
theorem q5o (x:Prf×Int):(fndA x).bd 0 = true:=by simp only [fndA,AV.bd,AV.bds,qgv];rfl
theorem qbb7 {k:Nat} {rs:List (RV×Co)} {Q:List Ent->VO->Prop} (af:AF) (H:List Ent):retr Tryz.prog k rs Q .ret af H = ∃ g first caps,af.dl = [.dfr (.fn g first caps) []]∧qp6 Tryz.prog g .nili H (first ++ caps) fun H'=>retk k rs Q af H':=rfl
theorem q96 {k:Nat} {rs:List (RV×Co)} {Q:List Ent->VO->Prop} (v:AV) (af:AF) (H:List Ent):retr Tryz.prog k rs Q (.pan v) af H = ∃ g first caps,af.dl = [.dfr (.fn g first caps) []]∧qp6 Tryz.prog g v H (first ++ caps) fun H'=>retk k rs Q af H':=rfl
set_option maxHeartbeats 1000000 in
theorem quq {e:Env} (g:List Pd) {p:Pd} (hf:fewC e.cs) (hi:∀ x∈e.is,smlI x) (hW:smW e) (hL:qbn p = true):qk Tryz.prog 29 [encV e,.sl 4 (qg g),encP p] (fndA (fndW (srcF e g 101 p))):=by
 refine ⟨qx1 c0dk 0 (Nat.le_refl _) (by simp) ?_,by simp only [go_sem],q5o _⟩
 have hS:=qib (g:=g) hf hi hW 101 p hL (by have:=(qgc hL).2.1;omega)
 cases hr:srcF e g 101 p with
 | ok y =>
   obtain ⟨x,n⟩:=y
   rw [hr] at hS
   unfold srcO at hS
   dsimp only at hS
   repeat' (first | refine vs_ ?_ | ((first | refine vr_ ?_ | (refine cs_ ?_ ?_<;>intro hc) | refine cj_ ?_ | fail)<;>(try refine ev_ ?_)) | with_reducible exact ti_)
   refine qrf ?_
   (refine ev_ ?_;(try with_reducible exact ti_))
   refine ⟨_,[],[.ptr 2 0,.ptr 3 0],rfl,?_⟩
   repeat' (first | refine vs_ ?_ | ((first | refine vr_ ?_ | (refine cs_ ?_ ?_<;>intro hc) | refine cj_ ?_ | fail)<;>(try refine ev_ ?_)) | with_reducible exact ti_)
   refine qcv hS ?_
   simp only [qeq]
   (simp (disch:=first | omega | (simp only [List.length_set,List.length_append,List.length_cons,List.length_nil];done) | (simp only [List.length_set,List.length_append,List.length_cons,List.length_nil];omega)) only [qb,go_sem,↓reduceIte])
   repeat' (first | refine vs_ ?_ | ((first | refine vr_ ?_ | (refine cs_ ?_ ?_<;>intro hc) | refine cj_ ?_ | fail)<;>(try refine ev_ ?_)) | with_reducible exact ti_)
   simp only [qbb7]
   refine ⟨_,[],[.ptr 2 0,.ptr 3 0],rfl,qbv2 ?_⟩
   simp only [retk,fin,List.take_zero,true_and]
   (refine ev_ ?_;(try with_reducible exact ti_))
   all_goals rfl
 | error c =>
   rw [hr] at hS
   unfold srcO at hS
   dsimp only at hS
   generalize hz:IC.seq q1r _ = z3
   repeat' (first | refine vs_ ?_ | ((first | refine vr_ ?_ | (refine cs_ ?_ ?_<;>intro hc) | refine cj_ ?_ | fail)<;>(try refine ev_ ?_)) | with_reducible exact ti_)
   refine qrf ?_
   (refine ev_ ?_;(try with_reducible exact ti_))
   refine ⟨_,[],[.ptr 2 0,.ptr 3 0],rfl,?_⟩
   repeat' (first | refine vs_ ?_ | ((first | refine vr_ ?_ | (refine cs_ ?_ ?_<;>intro hc) | refine cj_ ?_ | fail)<;>(try refine ev_ ?_)) | with_reducible exact ti_)
   refine qcv hS ?_
   simp only [qxe,qmd,q96]
   refine ⟨_,[],[.ptr 2 0,.ptr 3 0],rfl,qbau (e3:=.blk (pdc p)) ?_⟩
   simp only [retk,fin,List.take_zero,true_and]
   (refine ev_ ?_;(try with_reducible exact ti_))
   all_goals rfl
theorem quu (g:List Pd):(g.any fun q=>!qbn q) = !(g.all qbn):=by
 induction g with
 | nil=>rfl
 | cons q r ih=>rw [List.any_cons,List.all_cons,ih,Bool.not_and]
set_option maxHeartbeats 1000000 in
theorem q12 {e:Env} (g:List Pd) {p:Pd} (hf:fewC e.cs) (hi:∀ x∈e.is,smlI x) (hg:∀ q∈g,szY q.ty≤20000∧dpY q.ty≤300) (hp:szY p.ty≤20000∧dpY p.ty≤300):qk Tryz.prog 8 [encV e,.sl 4 (qg g),encP p] (fndA (byW e g p)):=by
 refine qd c0dl (by simp) (by simp only [go_sem]) (q5o _) fun hw=>?_
 have hI:=qg9 hp.1 hp.2
 have hA:=qbdc (f:=26) (g:=fun q=>!qbn q) (l:=g) fun q hq=>qg9 (hg q hq).1 (hg q hq).2
 rw [quu] at hA
 have hS:=qr9 (e:=e) hf
 unfold byW
 cases h1:qbn p with
 | false =>
   rw [h1] at hI
   rw [if_neg (by simp)]
   repeat' (first | refine vs_ ?_ | ((first | refine vr_ ?_ | refine qa hI fun _=>?_ | (refine cs_ ?_ ?_<;>intro hc) | refine cj_ ?_ | fail)<;>(try refine ev_ ?_)) | with_reducible exact ti_)
   all_goals simp only [fndA,qgw]
 | true =>
   rw [h1] at hI
   cases h2:g.all qbn with
   | false =>
     rw [h2] at hA
     rw [if_neg (by simp)]
     repeat' (first | refine vs_ ?_ | ((first | refine vr_ ?_ | refine qa hI fun _=>?_ | refine qa hA fun _=>?_ | (refine cs_ ?_ ?_<;>intro hc) | refine cj_ ?_ | fail)<;>(try refine ev_ ?_)) | with_reducible exact ti_)
     all_goals simp only [fndA,qgw]
   | true =>
     rw [h2] at hA
     cases h3:sndE e with
     | false =>
       rw [h3] at hS
       rw [if_neg (by simp)]
       repeat' (first | refine vs_ ?_ | ((first | refine vr_ ?_ | refine qa hI fun _=>?_ | refine qa hA fun _=>?_ | refine qa hS fun _=>?_ | (refine cs_ ?_ ?_<;>intro hc) | refine cj_ ?_ | fail)<;>(try refine ev_ ?_)) | with_reducible exact ti_)
       all_goals simp only [fndA,qgw]
     | true =>
       rw [h3] at hS
       rw [if_pos ⟨rfl,rfl,rfl⟩]
       have hF:=quq g hf hi (q1y h3 fun x hx=>(hi x hx).1) h1
       generalize fndW (srcF e g 101 p) = r at *
       obtain ⟨x,c⟩:=r
       unfold fndA at hF ⊢
       dsimp only at hF ⊢
       repeat' (first | refine vs_ ?_ | ((first | refine vr_ ?_ | refine qa hI fun _=>?_ | refine qa hA fun _=>?_ | refine qa hS fun _=>?_ | refine qa hF fun _=>?_ | (refine cs_ ?_ ?_<;>intro hc) | refine cj_ ?_ | fail)<;>(try refine ev_ ?_)) | with_reducible exact ti_)
set_option maxRecDepth 4000

def allL (e:Env) (g:List Pd):List Pd->Nat->List Prf->List Prf×Int×Int
 | [],i,acc=>(acc,0,0)
 | p :: r,i,acc=>if (byW e g p).2 = 0 then allL e g r (i + 1) (acc ++ [(byW e g p).1]) else ([],(i:Int),(byW e g p).2)
def allW (e:Env) (g l:List Pd):List Prf×Int×Int:=allL e g l 0 []
def allA (r:List Prf×Int×Int):AV:=.tup [.sl 4 (qt r.1),.int .i64 r.2.1,.int .i64 r.2.2]
theorem qbm8 (r:List Prf×Int×Int):(allA r).bd 0 = true:=by simp only [allA,AV.bd,AV.bds,qey];rfl
theorem q1f (e:Env) (g:List Pd):∀ (l:List Pd) (i:Nat) (acc:List Prf),(allL e g l i acc).2.2 = 0 ↔ ∀ p∈l,(byW e g p).2 = 0
 | [],i,acc=>by simp [allL]
 | p :: r, i, acc => by
   rw [allL]
   by_cases h:(byW e g p).2 = 0
   ·rw [if_pos h,q1f e g r];simp [h]
   ·rw [if_neg h];simp [h]
theorem qtj (e:Env) (g l:List Pd):(allW e g l).2.2 = 0 ↔ ∀ p∈l,(byW e g p).2 = 0:=q1f e g l 0 []
def alSt (e:Env) (g l:List Pd) (x:Nat×List Prf):AF×List Ent:=(⟨[(1,.sl 4 (qg g)),(3,.ptr 0 0),(9,accV 1 (qt x.2)),(14,.sl 4 (qg l)),(15,.int .i64 l.length),(16,.int .i64 x.1)],[]⟩,[.blk (evc e)] ++ accE 4 (qt x.2))
set_option maxHeartbeats 1000000 in
theorem qmv {e:Env} (g l:List Pd) (hf:fewC e.cs) (hi:∀ x∈e.is,smlI x) (hg:∀ q∈g,szY q.ty≤20000∧dpY q.ty≤300) (hp:∀ q∈l,szY q.ty≤20000∧dpY q.ty≤300) (hll:l.length≤100000):qk Tryz.prog 24 [encV e,.sl 4 (qg g),.sl 4 (qg l)] (allA (allW e g l)):=by
 refine qd c0di (by simp) (by simp only [go_sem]) (qbm8 _) fun hw=>?_
 have hl:=(qca hw.2.2.1).1
 repeat' (first | refine vs_ ?_ | ((first | refine vr_ ?_ | (refine cs_ ?_ ?_<;>intro hc) | refine cj_ ?_ | simp (disch:=omega) only [encs_getN,qb])<;>(try refine ev_ ?_)) | with_reducible exact ti_)
 refine qj (S:=Nat×List Prf) (fun x=>x.1≤l.length∧x.2.length = x.1∧allL e g (l.drop x.1) x.1 x.2 = allW e g l) (alSt e g l) (fun x=>l.length - x.1) ?_ fun x hx=>?_
 ·refine qf (0,[]) [0] ⟨Nat.zero_le _,rfl,rfl⟩ rfl (by simp) ?_ ?_ ?_<;>simp only [alSt,qt,qo,qn,List.append_nil]<;>(try refine ev_ ?_)<;>(try with_reducible exact ti_)<;>(try simp (disch:=omega) only [qb,and_true,true_and])
 ·obtain ⟨j,ks⟩:=x
  obtain ⟨x1,x2,x3⟩:=hx
  dsimp only at x1 x2 x3
  unfold alSt
  dsimp only
  by_cases hlt:j < l.length
  ·have hgt:=q8 hlt
   have hB:=q12 (p:=l.getD j P0) g hf hi hg (hp _ (qdf hlt))
   rw [V.dropP hlt,allL] at x3
   have hltI:(j:Int) < (l.length:Int):=by omega
   generalize l.getD j P0 = q at *
   generalize byW e g q = r at *
   obtain ⟨y,c⟩:=r
   unfold fndA at hB
   dsimp only at hB x3
   have hcap1:qbb 1 64:=by unfold qbb;omega
   have hcap2:qbb (ks.length + 1) 64:=by unfold qbb;omega
   by_cases hc0:c = 0
   ·rw [if_pos hc0] at x3
    subst hc0
    have hks1:(ks ++ [y]).length = j + 1:=by rw [List.length_append,x2];rfl
    have hne1:qt (ks ++ [y])≠[]:=by rw [qbe];simp
    by_cases h0:ks = []
    ·subst h0
     simp only [qt,qo,qn,List.append_nil]
     repeat' (first | refine vs_ ?_ | ((first | refine vr_ ?_ | fail)<;>(try simp (disch:=first | omega | (simp only [List.length_set,List.length_append,List.length_cons,List.length_nil];done) | (simp only [List.length_set,List.length_append,List.length_cons,List.length_nil];omega)) only [hgt,hltI,qb,go_sem,↓reduceIte])) | ((first | simp (disch:=omega) only [hgt] | simp (disch:=omega) only [hcap1] | simp (disch:=omega) only [hcap2] | (refine cs_ ?_ ?_<;>intro hc) | refine cj_ ?_ | simp (disch:=omega) only [encs_getN,qb] | refine qa hB fun _=>?_)<;>(try refine ev_ ?_)) | with_reducible exact ti_)
     all_goals try (exfalso;omega)
     have e1:qt [y] = [qb1 y]:=(qny y).symm
     refine qf (j + 1,[y]) [0,3] ⟨⟨by dsimp only;omega,hks1,x3⟩,by dsimp only;omega⟩ rfl (by simp) ?_ ?_ ?_
     all_goals (simp only [alSt,e1,qda,qdc,List.cons_append,List.nil_append]<;>(try refine ev_ ?_)<;>(try with_reducible exact ti_)<;>(try simp (disch:=omega) only [qb,and_true,true_and]))
     all_goals trace_state
    ·have hne:qt ks≠[]:=by rw [qbe];simpa using h0
     simp only [qu hne,qv hne,qz,List.cons_append,List.nil_append]
     repeat' (first | refine vs_ ?_ | ((first | refine vr_ ?_ | fail)<;>(try simp (disch:=first | omega | (simp only [List.length_set,List.length_append,List.length_cons,List.length_nil];done) | (simp only [List.length_set,List.length_append,List.length_cons,List.length_nil];omega)) only [hgt,hltI,qb,qz,go_sem,↓reduceIte])) | ((first | simp (disch:=omega) only [hgt] | simp (disch:=omega) only [hcap1] | simp (disch:=omega) only [hcap2] | (refine cs_ ?_ ?_<;>intro hc) | refine cj_ ?_ | simp (disch:=omega) only [encs_getN,qb] | refine qa hB fun _=>?_)<;>(try refine ev_ ?_)) | with_reducible exact ti_)
     all_goals try (exfalso;omega)
     refine qf (j + 1,ks ++ [y]) [0,4] ⟨⟨by dsimp only;omega,hks1,x3⟩,by dsimp only;omega⟩ rfl (by simp) ?_ ?_ ?_
     all_goals (simp only [alSt,qu hne1,qv hne1,qz,hks1,← qe4,List.cons_append,List.nil_append]<;>(try refine ev_ ?_)<;>(try with_reducible exact ti_)<;>(try simp (disch:=omega) only [qb,and_true,true_and]))
     all_goals first | (simp only [qe4];exact ⟨qey _ _,by rw [qi5]⟩) | (rw [x2]) | trace_state
   ·rw [if_neg hc0] at x3
    have hcd:decide (c = 0) = false:=decide_eq_false hc0
    rw [← x3]
    by_cases h0:ks = []
    ·subst h0
     simp only [qt,qo,qn,List.append_nil]
     repeat' (first | refine vs_ ?_ | ((first | refine vr_ ?_ | fail)<;>(try simp (disch:=first | omega | (simp only [List.length_set,List.length_append,List.length_cons,List.length_nil];done) | (simp only [List.length_set,List.length_append,List.length_cons,List.length_nil];omega)) only [hgt,hltI,hcd,qb,go_sem,↓reduceIte])) | ((first | simp (disch:=omega) only [hgt] | (refine cs_ ?_ ?_<;>intro hc) | refine cj_ ?_ | simp (disch:=omega) only [encs_getN,qb] | refine qa hB fun _=>?_)<;>(try refine ev_ ?_)) | with_reducible exact ti_)
     all_goals simp only [allA,qt]
    ·have hne:qt ks≠[]:=by rw [qbe];simpa using h0
     simp only [qu hne,qv hne,qz,List.cons_append,List.nil_append]
     repeat' (first | refine vs_ ?_ | ((first | refine vr_ ?_ | fail)<;>(try simp (disch:=first | omega | (simp only [List.length_set,List.length_append,List.length_cons,List.length_nil];done) | (simp only [List.length_set,List.length_append,List.length_cons,List.length_nil];omega)) only [hgt,hltI,hcd,qb,qz,go_sem,↓reduceIte])) | ((first | simp (disch:=omega) only [hgt] | (refine cs_ ?_ ?_<;>intro hc) | refine cj_ ?_ | simp (disch:=omega) only [encs_getN,qb] | refine qa hB fun _=>?_)<;>(try refine ev_ ?_)) | with_reducible exact ti_)
     all_goals simp only [allA,qt]
  ·rw [List.drop_of_length_le (by omega),allL] at x3
   rw [← x3]
   have hltI:¬ (j:Int) < (l.length:Int):=by omega
   by_cases h0:ks = []
   ·subst h0
    simp only [qt,qo,qn,List.append_nil]
    repeat' (first | refine vs_ ?_ | ((first | refine vr_ ?_ | fail)<;>(try simp only [hltI,go_sem,↓reduceIte])) | ((first | (refine cs_ ?_ ?_<;>intro hc) | refine cj_ ?_ | simp (disch:=omega) only [encs_getN,qb])<;>(try refine ev_ ?_)) | with_reducible exact ti_)
    all_goals simp only [allA,qt]
   ·have hne:qt ks≠[]:=by rw [qbe];simpa using h0
    simp only [qu hne,qv hne,qz,List.cons_append,List.nil_append]
    repeat' (first | refine vs_ ?_ | ((first | refine vr_ ?_ | fail)<;>(try simp only [hltI,qz,go_sem,↓reduceIte])) | ((first | (refine cs_ ?_ ?_<;>intro hc) | refine cj_ ?_ | simp (disch:=omega) only [encs_getN,qb])<;>(try refine ev_ ?_)) | with_reducible exact ti_)
    all_goals simp only [allA]
theorem qml {e:Env} (g l:List Pd) (hf:fewC e.cs) (hi:∀ x∈e.is,smlI x) (hg:∀ q∈g,szY q.ty≤20000∧dpY q.ty≤300) (hp:∀ q∈l,szY q.ty≤20000∧dpY q.ty≤300) (hll:l.length≤100000):qk Tryz.prog 17 [encV e,.sl 4 (qg g),.sl 4 (qg l)] (.bool (decide ((allW e g l).2.2 = 0))):=by
 refine qd c0dj (by simp) (by simp only [go_sem]) rfl fun hw=>?_
 have hA:=qmv g l hf hi hg hp hll
 generalize allW e g l = r at *
 obtain ⟨a,b,c⟩:=r
 unfold allA at hA
 dsimp only at hA ⊢
 repeat' (first | refine vs_ ?_ | ((first | refine vr_ ?_ | refine qa hA fun _=>?_ | (refine cs_ ?_ ?_<;>intro hc) | refine cj_ ?_ | fail)<;>(try refine ev_ ?_)) | with_reducible exact ti_)

end Go.Proofs.YtgglaabljlhliaaGreat

/- predicates: the law of Once -/
namespace Go.Proofs.YtgglaabljlhliaaGreat
open Go Go.RowKit Go.V
theorem qp0 (l:List Pd) (p:Pd):hasP l p = true ↔ p∈l:=by
 simp only [hasP,List.any_eq_true,qrb]
 exact ⟨fun ⟨x,h,e⟩=>e ▸ h,fun h=>⟨p,h,rfl⟩⟩
theorem qgb (p:Pd):∀ (l acc:List Pd),p∈qbh acc l ↔ p∈acc∨p∈l
 | [],acc=>by simp [qbh]
 | x :: r, acc => by
   rw [qbh]
   split
   ·rename_i h
    rw [qp0] at h
    rw [qgb p r acc,List.mem_cons]
    constructor
    ·rintro (h | h)<;>simp [h]
    ·rintro (h' | rfl | h')<;>simp [*]
   ·rw [qgb p r,List.mem_append,List.mem_singleton,List.mem_cons,or_assoc]
theorem qev:∀ (l acc:List Pd),(qbh acc l).length≤acc.length + l.length
 | [],acc=>by simp [qbh]
 | x :: r, acc => by
   rw [qbh]
   split
   ·have:=qev r acc;simp;omega
   ·have:=qev r (acc ++ [x]);simp at this ⊢;omega
end Go.Proofs.YtgglaabljlhliaaGreat

/- reduced predicates: as data -/
namespace Go.Proofs.YtgglaabljlhliaaGreat
open Go Go.RowKit Go.V

def qcf (p:Pd):Bool:=decide (p.ty.con = []) || pfx [33] p.ty.con
structure WK where
 out:List Pd
 done:List Pd
def addL (rec:Pd->WK->Int×WK):List Pd->WK->Int×WK
 | [],w=>(0,w)
 | q :: r,w=>if (rec q w).1 = 0 then addL rec r (rec q w).2 else rec q w
def addF (e:Env):Nat->Pd->WK->Int×WK
 | 0,p,w=>(2,w)
 | f + 1, p, w => if hasP w.done p = true then (0, w) else
   if qcf p = true then (if 4096 < w.out.length + 1 then 2 else 0,⟨w.out ++ [p],w.done ++ [p]⟩)
   else if (byI e.is p).2.2 = true then addL (addF e f) (byI e.is p).2.1 ⟨w.out,w.done ++ [p]⟩ else (16,⟨w.out,w.done ++ [p]⟩)
def cntR:Nat->Nat
 | 0=>0
 | f + 1=>1 + 30 * cntR f
def WK.ok (w:WK):Prop:=w.out.length≤w.done.length∧(w.done = []->w.out = [])
theorem qv1 {rec:Pd->WK->Int×WK} {k:Nat} (h:∀ q w,w.ok->(rec q w).2.ok∧(rec q w).2.done.length≤w.done.length + k):∀ (l:List Pd) (w:WK),w.ok->(addL rec l w).2.ok∧(addL rec l w).2.done.length≤w.done.length + l.length * k
 | [],w,hw=>⟨hw,by simp [addL]⟩
 | q :: r, w, hw => by
   obtain ⟨h1,h2⟩:=h q w hw
   rw [addL,List.length_cons,Nat.add_mul,Nat.one_mul]
   split
   ·obtain ⟨h3,h4⟩:=qv1 h r (rec q w).2 h1
    exact ⟨h3,by omega⟩
   ·exact ⟨h1,by omega⟩
theorem qpu {e:Env} (hW:∀ p,(byI e.is p).2.1.length≤30):∀ (f:Nat) (p:Pd) (w:WK),w.ok->(addF e f p w).2.ok∧(addF e f p w).2.done.length≤w.done.length + cntR f
 | 0,p,w,hw=>⟨hw,by simp [addF,cntR]⟩
 | f + 1, p, w, hw => by
   obtain ⟨w1,w2⟩:=hw
   have hok1:WK.ok ⟨w.out,w.done ++ [p]⟩:=⟨by simp;omega,fun h=>by simp at h⟩
   rw [addF,cntR]
   split
   ·exact ⟨⟨w1,w2⟩,by dsimp only;omega⟩
   ·split
    ·exact ⟨⟨by simp;exact w1,fun h=>by simp at h⟩,by simp only [List.length_append,List.length_cons,List.length_nil];omega⟩
    ·split
     ·obtain ⟨h1,h2⟩:=qv1 (k:=cntR f) (fun q w hw=>qpu hW f q w hw) (byI e.is p).2.1 ⟨w.out,w.done ++ [p]⟩ hok1
      have h3:(byI e.is p).2.1.length * cntR f≤30 * cntR f:=Nat.mul_le_mul_right _ (hW p)
      refine ⟨h1,?_⟩
      simp only [List.length_append,List.length_cons,List.length_nil] at h2
      omega
     ·exact ⟨hok1,by simp only [List.length_append,List.length_cons,List.length_nil];omega⟩
def qdq (e:Env) (p:Pd):List Pd×Int :=
 if qbn p = true∧sndE e = true then (if (addF e 7 p ⟨[],[]⟩).1 = 0 then ((addF e 7 p ⟨[],[]⟩).2.out,0) else ([],(addF e 7 p ⟨[],[]⟩).1)) else ([],1)
def hdsL (e:Env):List Pd->Nat->List Pd->List Pd×Int×Int
 | [],i,acc=>(acc,0,0)
 | p :: r,i,acc=>if (qdq e p).2 = 0 then hdsL e r (i + 1) (qbh [] (acc ++ (qdq e p).1)) else ([],(i:Int),(qdq e p).2)
def covR (e:Env) (l:List Pd) (p:Pd):Bool:=l.any fun q=>!decide (q.cls = p.cls) && (qe8 q.ty p.ty && (pthC e.cs q.cls p.cls).2)
def simR (e:Env) (l:List Pd):List Pd:=(qbh [] l).filter fun p=>!covR e (qbh [] l) p
def redR (e:Env) (l:List Pd):List Pd×List Prf×Int×Int :=
 if (hdsL e l 0 []).2.2 = 0 then
  (if (allW e (simR e (hdsL e l 0 []).1) l).2.2 = 0 then (simR e (hdsL e l 0 []).1,(allW e (simR e (hdsL e l 0 []).1) l).1,0,0)
  else ([],[],(allW e (simR e (hdsL e l 0 []).1) l).2.1,(allW e (simR e (hdsL e l 0 []).1) l).2.2))
 else ([],[],(hdsL e l 0 []).2.1,(hdsL e l 0 []).2.2)
end Go.Proofs.YtgglaabljlhliaaGreat
