/- Texts of this proof, joined. -/
import Derived.Test.YtgglaabljlhliaaGreatKbq
import Derived.Test.YtgglaabljlhliaaGreatKbs
set_option linter.unusedVariables false
set_option linter.unusedSimpArgs false

/- the reader of terms: what is left of a text -/
namespace Go.Proofs.YtgglaabljlhliaaGreat
open Go Go.RowKit Go.V

def Suf (r:Rd) (k:Nat) (p:Ty×Rd):Prop:=(∃ j,p.2.s = r.s.drop j)∧p.2.lv = r.lv∧p.1.args.length + p.2.s.length≤k + r.s.length
theorem qhr {r r1:Rd} {k:Nat} {p:Ty×Rd} (h:(∃ j,r1.s = r.s.drop j)∧r1.lv = r.lv) (hp:Suf r1 k p) {k':Nat} (hl:k + r1.s.length≤k' + r.s.length):Suf r k' p:=by
 obtain ⟨⟨j,h1⟩,h2⟩:=h
 obtain ⟨⟨i,h3⟩,h4,h5⟩:=hp
 exact ⟨⟨j + i,by rw [h3,h1,List.drop_drop]⟩,h4.trans h2,by omega⟩
theorem qyt (s:List UInt8):(qns s).args = []:=by
 unfold qns
 split
 ·rfl
 split
 ·split<;>rfl
 ·rfl
theorem q6t (r:Rd):Suf r 0 (qny r):=⟨⟨qfw r.s,rfl⟩,rfl,by simp [qny,qyt,badR,cutR]⟩
theorem qgx (k:Nat) (r:Rd):(cutR k r).s.length = r.s.length - k:=by simp [cutR]
theorem qha {p s:List UInt8} (h:pfx p s = true):p.length≤s.length:=by
 simp only [pfx,decide_eq_true_eq] at h
 have:=congrArg List.length h
 rw [List.length_take] at this
 omega
theorem qbgz {r:Rd} {p:Ty×Rd} (h:Suf r 0 p):Suf r 0 (endA p):=by
 obtain ⟨⟨j,h1⟩,h2,h3⟩:=h
 unfold endA
 repeat' split
 ·exact ⟨⟨j,h1⟩,h2,h3⟩
 ·refine ⟨⟨j + 1,by rw [cutR,h1,List.drop_drop]⟩,h2,?_⟩
  rw [qgx];dsimp only;omega
 ·exact ⟨⟨j,h1⟩,h2,h3⟩
theorem qbfb:∀ n,(∀ r,Suf r 0 (qdr n r)∨n = 0)∧(∀ r,Suf r 0 (qeq n r)∨n = 0)∧(∀ t r,Suf r t.args.length (ql5 n t r))∧(∀ p k (r:Rd),Suf r k p->Suf (lvR (r.lv - 1) r) k (q2i n p)):=by
 intro n
 induction n with
 | zero =>
   refine ⟨fun r=>.inr rfl,fun r=>.inr rfl,fun t r=>?_,fun p k r h=>?_⟩
   ·rw [ql5];exact ⟨⟨0,rfl⟩,rfl,Nat.le_refl _⟩
   ·rw [q2i];obtain ⟨h1,h2,h3⟩:=h;exact ⟨h1,by show p.2.lv - 1 = r.lv - 1;rw [h2],h3⟩
 | succ n ih =>
   obtain ⟨iA,iT,iM,iL⟩:=ih
   have hA0:∀ r,Suf r 0 (qdr n r):=fun r=>by
    rcases iA r with h | rfl
    ·exact h
    ·rw [qdr];exact ⟨⟨0,rfl⟩,rfl,by show ([]:List Ty).length + _≤_;simp⟩
   have hT0:∀ r,Suf r 0 (qeq n r):=fun r=>by
    rcases iT r with h | rfl
    ·exact h
    ·rw [qeq];exact ⟨⟨0,rfl⟩,rfl,by show ([]:List Ty).length + _≤_;simp⟩
   refine ⟨fun r=>.inl ?_,fun r=>.inl ?_,fun t r=>?_,fun p k r h=>?_⟩
   ·rw [qdr]
    split
    ·have h0:(∃ j,(cutR 1 r).s = r.s.drop j)∧(cutR 1 r).lv = r.lv:=⟨⟨1,rfl⟩,rfl⟩
     exact qbgz (qhr h0 (hT0 (cutR 1 r)) (by rw [qgx];omega))
    ·exact q6t r
   ·rw [qeq]
    split
    ·exact ⟨⟨0,rfl⟩,rfl,by show ([]:List Ty).length + _≤_;simp [badR]⟩
    ·have h1:=hA0 (lvR (r.lv + 1) r)
     have h2:=iM (qdr n (lvR (r.lv + 1) r)).1 (qdr n (lvR (r.lv + 1) r)).2
     have h3:Suf (lvR (r.lv + 1) r) 0 (ql5 n (qdr n (lvR (r.lv + 1) r)).1 (qdr n (lvR (r.lv + 1) r)).2):=by
      refine qhr ⟨h1.1,h1.2.1⟩ h2 h1.2.2
     have h4:=iL _ 0 _ h3
     obtain ⟨⟨j,q1⟩,q2,q3⟩:=h4
     refine ⟨⟨j,q1⟩,?_,q3⟩
     rw [q2]
     show r.lv + 1 - 1 = r.lv
     omega
   ·rw [ql5]
    split
    ·rename_i hc
     have hl:=qha hc.2.2
     simp only [List.length_cons,List.length_nil] at hl
     have h1:=hA0 (cutR 1 r)
     have h2:=iM (.mk t.con t.var (t.args ++ [(qdr n (cutR 1 r)).1])) (qdr n (cutR 1 r)).2
     obtain ⟨⟨j,q1⟩,q2,q3⟩:=h1
     rw [qgx] at q3
     have h0:(∃ j,(qdr n (cutR 1 r)).2.s = r.s.drop j)∧(qdr n (cutR 1 r)).2.lv = r.lv:=⟨⟨1 + j,by rw [q1,cutR,List.drop_drop]⟩,q2⟩
     refine qhr h0 h2 ?_
     show (t.args ++ [(qdr n (cutR 1 r)).1]).length + _≤_
     rw [List.length_append,List.length_singleton]
     omega
    ·exact ⟨⟨0,rfl⟩,rfl,Nat.le_refl _⟩
   ·rw [q2i]
    obtain ⟨⟨j,h1⟩,h2,h3⟩:=h
    split
    ·rename_i hc
     have hl:=qha hc.2
     simp only [arrS,List.length_cons,List.length_nil] at hl
     obtain ⟨⟨i,q1⟩,q2,q3⟩:=hT0 (cutR 4 p.2)
     rw [qgx] at q3
     refine ⟨⟨j + 4 + i,?_⟩,?_,?_⟩
     ·show (qeq n (cutR 4 p.2)).2.s = _
      rw [q1,cutR,h1,List.drop_drop,List.drop_drop,← Nat.add_assoc];rfl
     ·show (qeq n (cutR 4 p.2)).2.lv - 1 = r.lv - 1
      rw [q2];show p.2.lv - 1 = _;rw [h2]
     ·show 2 + (qeq n (cutR 4 p.2)).2.s.length≤k + r.s.length
      omega
    ·exact ⟨⟨j,h1⟩,by show p.2.lv - 1 = r.lv - 1;rw [h2],h3⟩
theorem qux {n:Nat} (hn:n≠0) (r:Rd):Suf r 0 (qdr n r):=((qbfb n).1 r).resolve_right hn
theorem q6d {n:Nat} (hn:n≠0) (r:Rd):Suf r 0 (qeq n r):=((qbfb n).2.1 r).resolve_right hn
theorem qbbl (n:Nat) (t:Ty) (r:Rd):Suf r t.args.length (ql5 n t r):=(qbfb n).2.2.1 t r
theorem qbzn {r:Rd} {k:Nat} {p:Ty×Rd} (h:Suf r k p) (hk:ascS r.s):ascS p.2.s:=by obtain ⟨⟨j,h1⟩,_⟩:=h;rw [h1];exact qd4 hk j
set_option maxRecDepth 4000

abbrev z1Y:List AV:=[.str [],.int .i64 0,.nils]
def RA (n:Nat):Prop:=∀ r:Rd,ascS r.s->0≤r.lv->r.lv≤200->3 * r.s.length + 1≤n->VM Tryz.prog 64 (rdE r) (rdE (qdr n r).2) [.ptr 0 0] (encY (qdr n r).1)
def RT (n:Nat):Prop:=∀ r:Rd,ascS r.s->0≤r.lv->r.lv≤200->3 * r.s.length + 2≤n->VM Tryz.prog 40 (rdE r) (rdE (qeq n r).2) [.ptr 0 0] (encY (qeq n r).1)
theorem qb35 {n:Nat} (hT:RT n):RA (n + 1):=fun r hk h0 h1 hn=>by
 cases hp:pfx [40] r.s with
 | false =>
   rw [qdr,if_neg (by simp [hp])]
   exact q0o (n:=n) hp hk
 | true =>
   have hl:=qha hp
   simp only [List.length_cons,List.length_nil] at hl
   rw [qdr,if_pos hp]
   exact qbbg hp (hT (cutR 1 r) (qd4 hk 1) h0 h1 (by rw [qgx];omega))
theorem qbh4 {z:Opd} {Q:VE->AF->List Ent->Prop} {af:AF} {H:List Ent}:dfq z Q .nrm af H = ∃ f first caps,gt af z = .fn f first caps∧Q .nrm ⟨af.tm,.dfr (.fn f first caps) [] :: af.dl⟩ H:=rfl
attribute [go_sem] qbh4
def dl1:List AD:=[.dfr (.fn 63 [] [.ptr 1 0]) []]
def tmSt (x:Nat×Ty×Rd):AF×List Ent:=(⟨[(1,.ptr 1 0),(2,.ptr 2 0),(3,.ptr 3 0)],dl1⟩,[rdE x.2.2,.blk [.ptr 0 0],.blk z1Y,.blk (yc x.2.1)])
theorem q9g {r:Rd} (hb:r.bad = true∨200 < r.lv + 1) (h0:0≤r.lv) (h1:r.lv≤200):VM Tryz.prog 40 (rdE r) (rdE (badR true r)) [.ptr 0 0] (encY Y0):=by
 refine qm3 c0ed 1 (by simp) (by simp) ?_
 have hw:IntKind.i64.wrap (r.lv + 1) = r.lv + 1:=qba (by omega) (by omega)
 unfold k0ed
 by_cases h2:200 < r.lv + 1
 ·refine qcg ?_
  repeat' (first | refine vs_ ?_ | ((first | refine vr_ ?_ | fail)<;>(try simp only [hw,h2,decide_true,go_sem,↓reduceIte])) | ((first | (refine cs_ ?_ ?_<;>intro hc) | refine cj_ ?_ | simp (disch:=omega) only [encs_getN,qb])<;>(try refine ev_ ?_)) | with_reducible exact ti_)
  refine qrr ?_
  (refine ev_ ?_;(try with_reducible exact ti_))
  refine ⟨_,[],[.ptr 1 0],rfl,?_⟩
  repeat' (first | refine vs_ ?_ | ((first | refine vr_ ?_ | fail)<;>(try simp only [hw,go_sem,↓reduceIte])) | ((first | (refine cs_ ?_ ?_<;>intro hc) | refine cj_ ?_ | simp (disch:=omega) only [encs_getN,qb])<;>(try refine ev_ ?_)) | with_reducible exact ti_)
  refine qkz (r:=⟨r.s,r.lv + 1,true⟩) (L:=[.blk z1Y]) (by dsimp only;omega) (by dsimp only;omega) rfl ?_
  (simp (disch:=first | omega | (simp only [List.length_set,List.length_append,List.length_cons,List.length_nil];done) | (simp only [List.length_set,List.length_append,List.length_cons,List.length_nil];omega)) only [Int.add_sub_cancel,go_sem,↓reduceIte])
  rfl
 ·have h3:r.bad = true:=hb.resolve_right h2
  refine qcg ?_
  repeat' (first | refine vs_ ?_ | ((first | refine vr_ ?_ | fail)<;>(try simp only [hw,h2,h3,decide_false,go_sem,↓reduceIte])) | ((first | (refine cs_ ?_ ?_<;>intro hc) | refine cj_ ?_ | simp (disch:=omega) only [encs_getN,qb])<;>(try refine ev_ ?_)) | with_reducible exact ti_)
  refine qrr ?_
  (refine ev_ ?_;(try with_reducible exact ti_))
  refine ⟨_,[],[.ptr 1 0],rfl,?_⟩
  repeat' (first | refine vs_ ?_ | ((first | refine vr_ ?_ | fail)<;>(try simp only [hw,h3,go_sem,↓reduceIte])) | ((first | (refine cs_ ?_ ?_<;>intro hc) | refine cj_ ?_ | simp (disch:=omega) only [encs_getN,qb])<;>(try refine ev_ ?_)) | with_reducible exact ti_)
  refine qkz (r:=⟨r.s,r.lv + 1,true⟩) (L:=[.blk z1Y]) (by dsimp only;omega) (by dsimp only;omega) rfl ?_
  (simp (disch:=first | omega | (simp only [List.length_set,List.length_append,List.length_cons,List.length_nil];done) | (simp only [List.length_set,List.length_append,List.length_cons,List.length_nil];omega)) only [Int.add_sub_cancel,go_sem,↓reduceIte])
  rfl
def tmSf (x:Bool×Nat×Ty×Rd):AF×List Ent :=
 if x.1 = true then (⟨[(1,.ptr 1 0),(2,.ptr 2 0),(3,.ptr 3 0)],dl1⟩,[rdE x.2.2.2,.blk [.ptr 0 0],.blk z1Y,.blk [.str x.2.2.1.con,.int .i64 x.2.2.1.var,.row 4 x.2.2.1.args.length],.app 3 (qq x.2.2.1.args)])
 else tmSt x.2
def tmI (n:Nat) (r0:Rd) (tg:Ty×Rd) (x:Nat×Ty×Rd):Prop:=ql5 x.1 x.2.1 x.2.2 = tg∧3 * x.2.2.s.length + 1≤x.1∧x.1≤n∧ascS x.2.2.s∧x.2.2.lv = r0.lv∧x.2.1.args.length + x.2.2.s.length≤r0.s.length
theorem q0v {n:Nat} {r0:Rd} {tg:Ty×Rd} (hA:∀ m,m≤n->RA m) (hk0:r0.s.length < 4294967281) (h0:0≤r0.lv) (h1:r0.lv≤200) {Q:VE->AF->List Ent->Prop} {m t q} (hx:tmI n r0 tg (m,t,q)) :
 VI Tryz.prog none 67 1 qnw (lq (fun s'=>tmI n r0 tg s'.2∧s'.2.1 < m) tmSf 1 (blq 0 (lq (fun _:Unit=>True) (fun _=>tmSt (0,tg)) 1 Q))) (tmSt (m,t,q)).1 (tmSt (m,t,q)).2:=by
 obtain ⟨e1,e2,e3,e4,e5,e6⟩:=hx
 dsimp only at e1 e2 e3 e4 e5 e6
 obtain ⟨m,rfl⟩:∃ m',m = m' + 1:=⟨m - 1,by omega⟩
 rw [ql5] at e1
 unfold tmSt
 cases hb:q.bad with
 | true =>
   rw [if_neg (by simp [hb])] at e1
   subst e1
   repeat' (first | refine vs_ ?_ | ((first | refine vr_ ?_ | fail)<;>(try simp only [hb,go_sem,↓reduceIte])) | ((first | (refine cs_ ?_ ?_<;>intro hc) | refine cj_ ?_ | simp (disch:=omega) only [encs_getN,qb])<;>(try refine ev_ ?_)) | with_reducible exact ti_)
   refine qf () [0,1,2,3] trivial rfl (by simp) ?_ ?_ ?_<;>simp only [tmSt,dl1]<;>(try refine ev_ ?_)<;>(try with_reducible exact ti_)<;>(try simp (disch:=omega) only [qb,and_true,true_and])
 | false =>
   cases hp:pfx arrS q.s with
   | true =>
     rw [if_neg (by simp [hp])] at e1
     subst e1
     unfold arrS at hp
     repeat' (first | refine vs_ ?_ | ((first | refine vr_ ?_ | fail)<;>(try simp only [hb,hp,go_sem,↓reduceIte])) | ((first | (refine cs_ ?_ ?_<;>intro hc) | refine cj_ ?_ | simp (disch:=omega) only [encs_getN,qb] | refine qa (qk _ _) fun _=>?_ | refine qc (qk _ _) ?_)<;>(try refine ev_ ?_)) | with_reducible exact ti_)
     all_goals first | (exfalso;rw [hp] at hc;cases hc;done) | skip
     refine qf () [0,1,2,3] trivial rfl (by simp) ?_ ?_ ?_<;>simp only [tmSt,dl1]<;>(try refine ev_ ?_)<;>(try with_reducible exact ti_)<;>(try simp (disch:=omega) only [qb,and_true,true_and])
   | false =>
     have hp':=hp
     unfold arrS at hp'
     cases hs:pfx [32] q.s with
     | false =>
       rw [if_neg (by simp [hs])] at e1
       subst e1
       repeat' (first | refine vs_ ?_ | ((first | refine vr_ ?_ | fail)<;>(try simp only [hb,hp',go_sem,↓reduceIte])) | ((first | (refine cs_ ?_ ?_<;>intro hc) | refine cj_ ?_ | simp (disch:=omega) only [encs_getN,qb] | refine qa (qk _ _) fun _=>?_ | refine qce 0 (qq6 (r:=⟨q.s,q.lv,false⟩) hs) ?_ | refine qc (qk _ _) ?_)<;>(try refine ev_ ?_)) | with_reducible exact ti_)
       all_goals first | (exfalso;rw [hp'] at hc;cases hc;done) | skip
       refine qf () [0,1,2,3] trivial rfl (by simp) ?_ ?_ ?_<;>simp only [tmSt,dl1]<;>(try refine ev_ ?_)<;>(try with_reducible exact ti_)<;>(try simp (disch:=omega) only [qb,and_true,true_and])
     | true =>
       rw [if_pos ⟨hb,hp,hs⟩] at e1
       have hl:=qha hs
       simp only [List.length_cons,List.length_nil] at hl
       have hatm:=hA m (by omega) (cutR 1 q) (qd4 e4 1) (by show 0≤q.lv;omega) (by show q.lv≤200;omega) (by rw [qgx];omega)
       have hsf:=qux (n:=m) (by omega) (cutR 1 q)
       have hcq:cutR 1 q = ⟨q.s.drop 1,q.lv,false⟩:=by rw [cutR,hb]
       rw [hcq] at hatm hsf e1
       generalize qdr m ⟨q.s.drop 1,q.lv,false⟩ = p at hatm hsf e1
       repeat' (first | refine vs_ ?_ | ((first | refine vr_ ?_ | fail)<;>(try simp only [hb,hp',go_sem,↓reduceIte])) | ((first | (refine cs_ ?_ ?_<;>intro hc) | refine cj_ ?_ | simp (disch:=omega) only [encs_getN,qb] | refine qa (qk _ _) fun _=>?_ | refine qce 0 (qna (r:=⟨q.s,q.lv,false⟩) hs) ?_ | refine qc (qk _ _) ?_)<;>(try refine ev_ ?_)) | with_reducible exact ti_)
       all_goals first | (exfalso;rw [hp'] at hc;cases hc;done) | skip
       have hnx:tmI n r0 tg (m,.mk t.con t.var (t.args ++ [p.1]),p.2):=by
        obtain ⟨q1,q2,q3⟩:=hsf
        rw [List.length_drop] at q3
        refine ⟨e1,by dsimp only;omega,by dsimp only;omega,?_,q2.trans e5,?_⟩
        ·obtain ⟨j,q1⟩:=q1
         rw [q1]
         exact qd4 (qd4 e4 1) j
        ·show (t.args ++ [p.1]).length + p.2.s.length≤_
         rw [List.length_append,List.length_singleton];omega
       by_cases ht:t.args = []
       ·refine q5l ht ?_
        repeat' (first | refine vs_ ?_ | ((first | refine vr_ ?_ | refine q9y 0 hatm ?_ | (refine cs_ ?_ ?_<;>intro hc) | refine cj_ ?_ | simp (disch:=omega) only [encs_getN,qb])<;>(try refine ev_ ?_)) | with_reducible exact ti_)
        refine qf (true,m,.mk t.con t.var (t.args ++ [p.1]),p.2) [0,1,2,3,4] ⟨hnx,by dsimp only;omega⟩ rfl (by simp) ?_ ?_ ?_<;>simp only [tmSf,dl1,ht,if_true]<;>(try refine ev_ ?_)<;>(try with_reducible exact ti_)<;>(try simp (disch:=omega) only [qb,and_true,true_and])
        all_goals exact ⟨rfl,rfl⟩
       ·refine q73 ht (by omega) ?_
        have hcap:qbe (t.args.length + 1) 48 = True:=eq_true (by unfold qbe;omega)
        repeat' (first | refine vs_ ?_ | ((first | refine vr_ ?_ | refine q9y 0 hatm ?_ | simp (disch:=omega) only [hcap] | (refine cs_ ?_ ?_<;>intro hc) | refine cj_ ?_ | simp (disch:=omega) only [encs_getN,qb])<;>(try refine ev_ ?_)) | with_reducible exact ti_)
        refine qf (true,m,.mk t.con t.var (t.args ++ [p.1]),p.2) [0,1,2,3,5] ⟨hnx,by dsimp only;omega⟩ rfl (by simp) ?_ ?_ ?_<;>simp only [tmSf,dl1,if_true]<;>(try refine ev_ ?_)<;>(try with_reducible exact ti_)<;>(try simp (disch:=omega) only [qb,and_true,true_and])
        all_goals exact ⟨by rw [show (Ty.mk t.con t.var (t.args ++ [p.1])).args.length = t.args.length + 1 by simp [Ty.args]];rfl,by rw [qel];rfl⟩
theorem q22 {n:Nat} {r0:Rd} {tg:Ty×Rd} (hA:∀ m,m≤n->RA m) (hk0:r0.s.length < 4294967281) (h0:0≤r0.lv) (h1:r0.lv≤200) {Q:VE->AF->List Ent->Prop} {af:AF} {H:List Ent}
 (hat:At (Bool×Nat×Ty×Rd) (fun x=>tmI n r0 tg x.2) tmSf 1 af H):VI Tryz.prog none 67 1 (.block 0 (.loop qnw)) (lq (fun _:Unit=>True) (fun _=>tmSt (0,tg)) 1 Q) af H:=by
 refine qvz (qi (fun x=>tmI n r0 tg x.2) tmSf (fun x=>x.2.1) hat fun x hx=>?_)
 obtain ⟨b,m,t,q⟩:=x
 have hs:=q0v (Q:=Q) hA hk0 h0 h1 hx
 cases b with
 | false=>exact hs
 | true =>
   refine qkt 3 2 (.sl 3) rfl ?_
   refine qox (S:=Unit) (Inv:=fun _=>True) (st:=fun _=>tmSt (m,t,q)) ?_ fun _ _=>hs
   refine qf () [0,1,2,3] trivial rfl (by simp) ?_ ?_ ?_<;>simp only [tmSt,tmSf,dl1,if_true]<;>(try refine ev_ ?_)<;>(try with_reducible exact ti_)<;>(try simp (disch:=omega) only [qb,and_true,true_and])
end Go.Proofs.YtgglaabljlhliaaGreat
