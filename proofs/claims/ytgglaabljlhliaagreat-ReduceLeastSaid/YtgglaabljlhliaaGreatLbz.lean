/- Texts of this proof, joined. -/
import Derived.Test.YtgglaabljlhliaaGreatLbs
import Derived.Test.YtgglaabljlhliaaGreatLby
import Derived.Test.YtgglaabljlhliaaGreatLay
set_option linter.unusedVariables false
set_option linter.unusedSimpArgs false

/- the reader of terms: terms -/
set_option maxRecDepth 4000
namespace Go.Proofs.YtgglaabljlhliaaGreat
open Go Go.RowKit Go.V

abbrev z1Y:List AV:=[.str [],.int .i64 0,.nils]
def RA (n:Nat):Prop:=∀ r:Rd,ascS r.s->0≤r.lv->r.lv≤200->3 * r.s.length + 1≤n->VM Tryz.prog 64 (rdE r) (rdE (qd0 n r).2) [.ptr 0 0] (encY (qd0 n r).1)
def RT (n:Nat):Prop:=∀ r:Rd,ascS r.s->0≤r.lv->r.lv≤200->3 * r.s.length + 2≤n->VM Tryz.prog 40 (rdE r) (rdE (qfa n r).2) [.ptr 0 0] (encY (qfa n r).1)
theorem qb7p {n:Nat} (hT:RT n):RA (n + 1):=fun r hk h0 h1 hn=>by
 cases hp:pfx [40] r.s with
 | false =>
   rw [qd0,if_neg (by simp [hp])]
   exact q30 (n:=n) hp hk
 | true =>
   have hl:=qhi hp
   simp only [List.length_cons,List.length_nil] at hl
   rw [qd0,if_pos hp]
   exact q89 hp (hT (cutR 1 r) (qeb hk 1) h0 h1 (by rw [qhg];omega))
theorem qbl1 {z:Opd} {Q:VE->AF->List Ent->Prop} {af:AF} {H:List Ent}:dfq z Q .nrm af H = ∃ f first caps,gt af z = .fn f first caps∧Q .nrm ⟨af.tm,.dfr (.fn f first caps) [] :: af.dl⟩ H:=rfl
attribute [go_sem] qbl1
def dl1:List AD:=[.dfr (.fn 63 [] [.ptr 1 0]) []]
def tmSt (x:Nat×Ty×Rd):AF×List Ent:=(⟨[(1,.ptr 1 0),(2,.ptr 2 0),(3,.ptr 3 0)],dl1⟩,[rdE x.2.2,.blk [.ptr 0 0],.blk z1Y,.blk (yc x.2.1)])
theorem qbcb {r:Rd} (hb:r.bad = true∨200 < r.lv + 1) (h0:0≤r.lv) (h1:r.lv≤200):VM Tryz.prog 40 (rdE r) (rdE (badR true r)) [.ptr 0 0] (encY Y0):=by
 refine qmx c0eg 1 (by simp) (by simp) ?_
 have hw:IntKind.i64.wrap (r.lv + 1) = r.lv + 1:=qbc (by omega) (by omega)
 unfold k0eg
 by_cases h2:200 < r.lv + 1
 ·refine qcn ?_
  repeat' (first | refine vs_ ?_ | ((first | refine vr_ ?_ | fail)<;>(try simp only [hw,h2,decide_true,go_sem,↓reduceIte])) | ((first | (refine cs_ ?_ ?_<;>intro hc) | refine cj_ ?_ | simp (disch:=omega) only [encs_getN,qb])<;>(try refine ev_ ?_)) | with_reducible exact ti_)
  refine qrf ?_
  (refine ev_ ?_;(try with_reducible exact ti_))
  refine ⟨_,[],[.ptr 1 0],rfl,?_⟩
  repeat' (first | refine vs_ ?_ | ((first | refine vr_ ?_ | fail)<;>(try simp only [hw,go_sem,↓reduceIte])) | ((first | (refine cs_ ?_ ?_<;>intro hc) | refine cj_ ?_ | simp (disch:=omega) only [encs_getN,qb])<;>(try refine ev_ ?_)) | with_reducible exact ti_)
  refine qlr (r:=⟨r.s,r.lv + 1,true⟩) (L:=[.blk z1Y]) (by dsimp only;omega) (by dsimp only;omega) rfl ?_
  (simp (disch:=first | omega | (simp only [List.length_set,List.length_append,List.length_cons,List.length_nil];done) | (simp only [List.length_set,List.length_append,List.length_cons,List.length_nil];omega)) only [Int.add_sub_cancel,go_sem,↓reduceIte])
  rfl
 ·have h3:r.bad = true:=hb.resolve_right h2
  refine qcn ?_
  repeat' (first | refine vs_ ?_ | ((first | refine vr_ ?_ | fail)<;>(try simp only [hw,h2,h3,decide_false,go_sem,↓reduceIte])) | ((first | (refine cs_ ?_ ?_<;>intro hc) | refine cj_ ?_ | simp (disch:=omega) only [encs_getN,qb])<;>(try refine ev_ ?_)) | with_reducible exact ti_)
  refine qrf ?_
  (refine ev_ ?_;(try with_reducible exact ti_))
  refine ⟨_,[],[.ptr 1 0],rfl,?_⟩
  repeat' (first | refine vs_ ?_ | ((first | refine vr_ ?_ | fail)<;>(try simp only [hw,h3,go_sem,↓reduceIte])) | ((first | (refine cs_ ?_ ?_<;>intro hc) | refine cj_ ?_ | simp (disch:=omega) only [encs_getN,qb])<;>(try refine ev_ ?_)) | with_reducible exact ti_)
  refine qlr (r:=⟨r.s,r.lv + 1,true⟩) (L:=[.blk z1Y]) (by dsimp only;omega) (by dsimp only;omega) rfl ?_
  (simp (disch:=first | omega | (simp only [List.length_set,List.length_append,List.length_cons,List.length_nil];done) | (simp only [List.length_set,List.length_append,List.length_cons,List.length_nil];omega)) only [Int.add_sub_cancel,go_sem,↓reduceIte])
  rfl
def tmSf (x:Bool×Nat×Ty×Rd):AF×List Ent :=
 if x.1 = true then (⟨[(1,.ptr 1 0),(2,.ptr 2 0),(3,.ptr 3 0)],dl1⟩,[rdE x.2.2.2,.blk [.ptr 0 0],.blk z1Y,.blk [.str x.2.2.1.con,.int .i64 x.2.2.1.var,.row 4 x.2.2.1.args.length],.app 3 (qx x.2.2.1.args)])
 else tmSt x.2
def tmI (n:Nat) (r0:Rd) (tg:Ty×Rd) (x:Nat×Ty×Rd):Prop:=qms x.1 x.2.1 x.2.2 = tg∧3 * x.2.2.s.length + 1≤x.1∧x.1≤n∧ascS x.2.2.s∧x.2.2.lv = r0.lv∧x.2.1.args.length + x.2.2.s.length≤r0.s.length
theorem q0r {n:Nat} {r0:Rd} {tg:Ty×Rd} (hA:∀ m,m≤n->RA m) (hk0:r0.s.length < 4294967281) (h0:0≤r0.lv) (h1:r0.lv≤200) {Q:VE->AF->List Ent->Prop} {m t q} (hx:tmI n r0 tg (m,t,q)) :
 VI Tryz.prog none 67 1 qoi (lq (fun s'=>tmI n r0 tg s'.2∧s'.2.1 < m) tmSf 1 (blq 0 (lq (fun _:Unit=>True) (fun _=>tmSt (0,tg)) 1 Q))) (tmSt (m,t,q)).1 (tmSt (m,t,q)).2:=by
 obtain ⟨e1,e2,e3,e4,e5,e6⟩:=hx
 dsimp only at e1 e2 e3 e4 e5 e6
 obtain ⟨m,rfl⟩:∃ m',m = m' + 1:=⟨m - 1,by omega⟩
 rw [qms] at e1
 unfold tmSt
 cases hb:q.bad with
 | true =>
   rw [if_neg (by simp [hb])] at e1
   subst e1
   repeat' (first | refine vs_ ?_ | ((first | refine vr_ ?_ | fail)<;>(try simp only [hb,go_sem,↓reduceIte])) | ((first | (refine cs_ ?_ ?_<;>intro hc) | refine cj_ ?_ | simp (disch:=omega) only [encs_getN,qb])<;>(try refine ev_ ?_)) | with_reducible exact ti_)
   refine qf () [0,1,2,3] trivial rfl (by simp) ?_ ?_ ?_<;>simp only [tmSt,dl1]<;>(try refine ev_ ?_)<;>(try with_reducible exact ti_)<;>(try simp (disch:=omega) only [qb,and_true,true_and])
 | false =>
   cases hp:pfx arrS q.s with
   | true =>
     rw [if_neg (by simp [hp])] at e1
     subst e1
     unfold arrS at hp
     repeat' (first | refine vs_ ?_ | ((first | refine vr_ ?_ | fail)<;>(try simp only [hb,hp,go_sem,↓reduceIte])) | ((first | (refine cs_ ?_ ?_<;>intro hc) | refine cj_ ?_ | simp (disch:=omega) only [encs_getN,qb] | refine qa (qm _ _) fun _=>?_ | refine qc (qm _ _) ?_)<;>(try refine ev_ ?_)) | with_reducible exact ti_)
     all_goals first | (exfalso;rw [hp] at hc;cases hc;done) | skip
     refine qf () [0,1,2,3] trivial rfl (by simp) ?_ ?_ ?_<;>simp only [tmSt,dl1]<;>(try refine ev_ ?_)<;>(try with_reducible exact ti_)<;>(try simp (disch:=omega) only [qb,and_true,true_and])
   | false =>
     have hp':=hp
     unfold arrS at hp'
     cases hs:pfx [32] q.s with
     | false =>
       rw [if_neg (by simp [hs])] at e1
       subst e1
       repeat' (first | refine vs_ ?_ | ((first | refine vr_ ?_ | fail)<;>(try simp only [hb,hp',go_sem,↓reduceIte])) | ((first | (refine cs_ ?_ ?_<;>intro hc) | refine cj_ ?_ | simp (disch:=omega) only [encs_getN,qb] | refine qa (qm _ _) fun _=>?_ | refine qcc 0 (qrq (r:=⟨q.s,q.lv,false⟩) hs) ?_ | refine qc (qm _ _) ?_)<;>(try refine ev_ ?_)) | with_reducible exact ti_)
       all_goals first | (exfalso;rw [hp'] at hc;cases hc;done) | skip
       refine qf () [0,1,2,3] trivial rfl (by simp) ?_ ?_ ?_<;>simp only [tmSt,dl1]<;>(try refine ev_ ?_)<;>(try with_reducible exact ti_)<;>(try simp (disch:=omega) only [qb,and_true,true_and])
     | true =>
       rw [if_pos ⟨hb,hp,hs⟩] at e1
       have hl:=qhi hs
       simp only [List.length_cons,List.length_nil] at hl
       have hatm:=hA m (by omega) (cutR 1 q) (qeb e4 1) (by show 0≤q.lv;omega) (by show q.lv≤200;omega) (by rw [qhg];omega)
       have hsf:=qvi (n:=m) (by omega) (cutR 1 q)
       have hcq:cutR 1 q = ⟨q.s.drop 1,q.lv,false⟩:=by rw [cutR,hb]
       rw [hcq] at hatm hsf e1
       generalize qd0 m ⟨q.s.drop 1,q.lv,false⟩ = p at hatm hsf e1
       repeat' (first | refine vs_ ?_ | ((first | refine vr_ ?_ | fail)<;>(try simp only [hb,hp',go_sem,↓reduceIte])) | ((first | (refine cs_ ?_ ?_<;>intro hc) | refine cj_ ?_ | simp (disch:=omega) only [encs_getN,qb] | refine qa (qm _ _) fun _=>?_ | refine qcc 0 (qmt (r:=⟨q.s,q.lv,false⟩) hs) ?_ | refine qc (qm _ _) ?_)<;>(try refine ev_ ?_)) | with_reducible exact ti_)
       all_goals first | (exfalso;rw [hp'] at hc;cases hc;done) | skip
       have hnx:tmI n r0 tg (m,.mk t.con t.var (t.args ++ [p.1]),p.2):=by
        obtain ⟨q1,q2,q3⟩:=hsf
        rw [List.length_drop] at q3
        refine ⟨e1,by dsimp only;omega,by dsimp only;omega,?_,q2.trans e5,?_⟩
        ·obtain ⟨j,q1⟩:=q1
         rw [q1]
         exact qeb (qeb e4 1) j
        ·show (t.args ++ [p.1]).length + p.2.s.length≤_
         rw [List.length_append,List.length_singleton];omega
       by_cases ht:t.args = []
       ·refine qbce ht ?_
        repeat' (first | refine vs_ ?_ | ((first | refine vr_ ?_ | refine q74 0 hatm ?_ | (refine cs_ ?_ ?_<;>intro hc) | refine cj_ ?_ | simp (disch:=omega) only [encs_getN,qb])<;>(try refine ev_ ?_)) | with_reducible exact ti_)
        refine qf (true,m,.mk t.con t.var (t.args ++ [p.1]),p.2) [0,1,2,3,4] ⟨hnx,by dsimp only;omega⟩ rfl (by simp) ?_ ?_ ?_<;>simp only [tmSf,dl1,ht,if_true]<;>(try refine ev_ ?_)<;>(try with_reducible exact ti_)<;>(try simp (disch:=omega) only [qb,and_true,true_and])
        all_goals exact ⟨rfl,rfl⟩
       ·refine qbao ht (by omega) ?_
        have hcap:qbb (t.args.length + 1) 48 = True:=eq_true (by unfold qbb;omega)
        repeat' (first | refine vs_ ?_ | ((first | refine vr_ ?_ | refine q74 0 hatm ?_ | simp (disch:=omega) only [hcap] | (refine cs_ ?_ ?_<;>intro hc) | refine cj_ ?_ | simp (disch:=omega) only [encs_getN,qb])<;>(try refine ev_ ?_)) | with_reducible exact ti_)
        refine qf (true,m,.mk t.con t.var (t.args ++ [p.1]),p.2) [0,1,2,3,5] ⟨hnx,by dsimp only;omega⟩ rfl (by simp) ?_ ?_ ?_<;>simp only [tmSf,dl1,if_true]<;>(try refine ev_ ?_)<;>(try with_reducible exact ti_)<;>(try simp (disch:=omega) only [qb,and_true,true_and])
        all_goals exact ⟨by rw [show (Ty.mk t.con t.var (t.args ++ [p.1])).args.length = t.args.length + 1 by simp [Ty.args]];rfl,by rw [qgo];rfl⟩
theorem q4j {n:Nat} {r0:Rd} {tg:Ty×Rd} (hA:∀ m,m≤n->RA m) (hk0:r0.s.length < 4294967281) (h0:0≤r0.lv) (h1:r0.lv≤200) {Q:VE->AF->List Ent->Prop} {af:AF} {H:List Ent}
 (hat:At (Bool×Nat×Ty×Rd) (fun x=>tmI n r0 tg x.2) tmSf 1 af H):VI Tryz.prog none 67 1 (.block 0 (.loop qoi)) (lq (fun _:Unit=>True) (fun _=>tmSt (0,tg)) 1 Q) af H:=by
 refine qw6 (qj (fun x=>tmI n r0 tg x.2) tmSf (fun x=>x.2.1) hat fun x hx=>?_)
 obtain ⟨b,m,t,q⟩:=x
 have hs:=q0r (Q:=Q) hA hk0 h0 h1 hx
 cases b with
 | false=>exact hs
 | true =>
   refine qme 3 2 (.sl 3) rfl ?_
   refine qpy (S:=Unit) (Inv:=fun _=>True) (st:=fun _=>tmSt (m,t,q)) ?_ fun _ _=>hs
   refine qf () [0,1,2,3] trivial rfl (by simp) ?_ ?_ ?_<;>simp only [tmSt,tmSf,dl1,if_true]<;>(try refine ev_ ?_)<;>(try with_reducible exact ti_)<;>(try simp (disch:=omega) only [qb,and_true,true_and])
set_option maxRecDepth 4000

theorem qbcd {n:Nat} {r0:Rd} {tg:Ty×Rd} (hA:∀ m,m≤n->RA m) (hk0:r0.s.length < 4294967281) (h0:0≤r0.lv) (h1:r0.lv≤200) {Q:VE->AF->List Ent->Prop} {af:AF} {H:List Ent}
 (hat:At (Bool×Nat×Ty×Rd) (fun x=>tmI n r0 tg x.2) tmSf 1 af H) (hQ:∀ af H,At Unit (fun _=>True) (fun _=>tmSt (0,tg)) 1 af H->Q .nrm af H):VI Tryz.prog none 67 1 (.block 0 (.loop qoi)) Q af H :=
 (q4j (Q:=Q) hA hk0 h0 h1 hat).mono fun e af H hq=>by
  cases e with
  | nrm=>exact hQ af H hq
  | _=>exact hq
theorem qb7q {n:Nat} (hA:∀ m,m≤n->RA m) (hT:∀ m,m≤n->RT m):RT (n + 1):=fun r hk h0 h1 hn=>by
 by_cases hb:r.bad = true∨200 < r.lv + 1
 ·rw [qfa,if_pos hb]
  exact qbcb hb h0 h1
 rw [qfa,if_neg hb]
 have hb1:r.bad = false:=by cases h:r.bad with | false=>rfl | true=>exact absurd (.inl h) hb
 have hb2:¬ 200 < r.lv + 1:=fun h=>hb (.inr h)
 have hw:IntKind.i64.wrap (r.lv + 1) = r.lv + 1:=qbc (by omega) (by omega)
 have hatm:=hA n (Nat.le_refl n) (lvR (r.lv + 1) r) hk (by show 0≤r.lv + 1;omega) (by show r.lv + 1≤200;omega) (by show 3 * r.s.length + 1≤n;omega)
 have hsf:=qvi (n:=n) (by omega) (lvR (r.lv + 1) r)
 have hl:lvR (r.lv + 1) r = ⟨r.s,r.lv + 1,false⟩:=by rw [lvR,hb1]
 rw [hl] at hatm hsf ⊢
 generalize qd0 n ⟨r.s,r.lv + 1,false⟩ = p0 at hatm hsf ⊢
 have hsm:=qhp ⟨hsf.1,hsf.2.1⟩ (qbae n p0.1 p0.2) hsf.2.2
 generalize htg:qms n p0.1 p0.2 = tg at hsm ⊢
 have hks:=qbyt hsm hk
 obtain ⟨p1,p2,p3⟩:=hsf
 obtain ⟨s1,s2,s3⟩:=hsm
 dsimp only at p1 p2 p3 s1 s2 s3 hks
 refine qmx c0eg 1 (by simp) (by simp) ?_
 unfold k0eg
 refine qcn ?_
 repeat' (first | refine vs_ ?_ | ((first | refine vr_ ?_ | fail)<;>(try simp only [hw,hb2,decide_false,go_sem,↓reduceIte])) | ((first | (refine cs_ ?_ ?_<;>intro hc) | refine cj_ ?_ | simp (disch:=omega) only [encs_getN,qb])<;>(try refine ev_ ?_)) | with_reducible exact ti_)
 refine qrf ?_
 (refine ev_ ?_;(try with_reducible exact ti_))
 refine ⟨_,[],[.ptr 1 0],rfl,?_⟩
 refine qmb (S:=Unit) (fun _=>True) (fun _=>(⟨[(1,.ptr 1 0),(2,.ptr 2 0)],dl1⟩,[rdE ⟨r.s,r.lv + 1,false⟩,.blk [.ptr 0 0],.blk z1Y])) ?_ fun _ _=>?_
 ·repeat' (first | refine vs_ ?_ | ((first | refine vr_ ?_ | fail)<;>(try simp only [hb1,go_sem,↓reduceIte])) | ((first | (refine cs_ ?_ ?_<;>intro hc) | refine cj_ ?_ | simp (disch:=omega) only [encs_getN,qb])<;>(try refine ev_ ?_)) | with_reducible exact ti_)
  refine qf () [0,1,2] trivial rfl (by simp) ?_ ?_ ?_<;>simp only [dl1,hb1]<;>(try refine ev_ ?_)<;>(try with_reducible exact ti_)<;>(try simp (disch:=omega) only [qb,and_true,true_and])
 refine qmb (S:=Unit) (fun _=>True) (fun _=>tmSf (false,n,p0.1,p0.2)) ?_ fun _ _=>?_
 ·repeat' (first | refine vs_ ?_ | ((first | refine vr_ ?_ | refine qcc 0 hatm ?_ | (refine cs_ ?_ ?_<;>intro hc) | refine cj_ ?_ | simp (disch:=omega) only [encs_getN,qb])<;>(try refine ev_ ?_)) | with_reducible exact ti_)
  refine qf () [0,1,2,3] trivial rfl (by simp) ?_ ?_ ?_<;>simp only [tmSf,tmSt,dl1,Bool.false_eq_true,if_false]<;>(try refine ev_ ?_)<;>(try with_reducible exact ti_)<;>(try simp (disch:=omega) only [qb,and_true,true_and])
 have hin:tmI n ⟨r.s,r.lv + 1,false⟩ tg (n,p0.1,p0.2):=⟨htg,by dsimp only;omega,Nat.le_refl _,by obtain ⟨j,q⟩:=p1;dsimp only;rw [q];exact qeb hk j,p2,by dsimp only;omega⟩
 have hat0:At (Bool×Nat×Ty×Rd) (fun x=>tmI n ⟨r.s,r.lv + 1,false⟩ tg x.2) tmSf 1 (tmSf (false,n,p0.1,p0.2)).1 (tmSf (false,n,p0.1,p0.2)).2:=by
  refine qf (false,n,p0.1,p0.2) [0,1,2,3] hin rfl (by simp) ?_ ?_ ?_<;>simp only [tmSf,tmSt,dl1,Bool.false_eq_true,if_false]<;>(try refine ev_ ?_)<;>(try with_reducible exact ti_)<;>(try simp (disch:=omega) only [qb,and_true,true_and])
 refine qcn (qbcd (r0:=⟨r.s,r.lv + 1,false⟩) hA hk (by dsimp only;omega) (by dsimp only;omega) hat0 fun af H hat=>qpy hat fun _ _=>?_)
 unfold tmSt
 obtain ⟨n',rfl⟩:∃ n',n = n' + 1:=⟨n - 1,by omega⟩
 rw [q1x]
 cases hbt:tg.2.bad with
 | true =>
   rw [if_neg (by simp)]
   repeat' (first | refine vs_ ?_ | ((first | refine vr_ ?_ | fail)<;>(try simp only [hbt,go_sem,↓reduceIte])) | ((first | (refine cs_ ?_ ?_<;>intro hc) | refine cj_ ?_ | simp (disch:=omega) only [encs_getN,qb])<;>(try refine ev_ ?_)) | with_reducible exact ti_)
   refine qlr (r:=⟨tg.2.s,tg.2.lv,true⟩) (L:=[.blk (yc tg.1),.blk (yc tg.1)]) (by dsimp only;omega) (by dsimp only;omega) rfl ?_
   (refine ev_ ?_;(try with_reducible exact ti_))
   all_goals (try rfl)
 | false =>
   cases hpt:pfx arrS tg.2.s with
   | false =>
     rw [if_neg (by simp)]
     repeat' (first | refine vs_ ?_ | ((first | refine vr_ ?_ | fail)<;>(try simp only [hbt,go_sem,↓reduceIte])) | ((first | (refine cs_ ?_ ?_<;>intro hc) | refine cj_ ?_ | simp (disch:=omega) only [encs_getN,qb] | refine qcc 0 (qrq (r:=⟨tg.2.s,tg.2.lv,false⟩) hpt) ?_)<;>(try refine ev_ ?_)) | with_reducible exact ti_)
     refine qlr (r:=⟨tg.2.s,tg.2.lv,false⟩) (L:=[.blk (yc tg.1),.blk (yc tg.1)]) (by dsimp only;omega) (by dsimp only;omega) rfl ?_
     (refine ev_ ?_;(try with_reducible exact ti_))
     all_goals (try rfl)
   | true =>
     have hlp:=qhi hpt
     simp only [arrS,List.length_cons,List.length_nil] at hlp
     have htm:=hT n' (by omega) (cutR 4 tg.2) (qeb hks 4) (by show 0≤tg.2.lv;omega) (by show tg.2.lv≤200;omega) (by rw [qhg];omega)
     have htl:=(qbbx (n:=n') (by omega) (cutR 4 tg.2)).2.1
     have hct:cutR 4 tg.2 = ⟨tg.2.s.drop 4,tg.2.lv,false⟩:=by rw [cutR,hbt]
     rw [hct] at htm htl ⊢
     generalize qfa n' ⟨tg.2.s.drop 4,tg.2.lv,false⟩ = p2 at htm htl ⊢
     rw [if_pos ⟨rfl,rfl⟩]
     repeat' (first | refine vs_ ?_ | ((first | refine vr_ ?_ | fail)<;>(try simp only [hbt,go_sem,↓reduceIte])) | ((first | (refine cs_ ?_ ?_<;>intro hc) | refine cj_ ?_ | simp (disch:=omega) only [encs_getN,qb] | refine qcc 0 (qmt (r:=⟨tg.2.s,tg.2.lv,false⟩) hpt) ?_ | refine q74 0 htm ?_)<;>(try refine ev_ ?_)) | with_reducible exact ti_)
     refine qlr (r:=p2.2) (L:=[.blk [.str [45,62],.int .i64 0,.lit 3 [encY tg.1,encY p2.1]],.blk (yc tg.1)]) (by dsimp only at htl;omega) (by dsimp only at htl;omega) rfl ?_
     (refine ev_ ?_;(try with_reducible exact ti_))
     exact ⟨rfl,rfl⟩
theorem qb5z:∀ N,(∀ n,n≤N->RA n)∧∀ n,n≤N->RT n:=fun N=>by
 induction N with
 | zero=>exact ⟨fun n hn r _ _ _ h=>by omega,fun n hn r _ _ _ h=>by omega⟩
 | succ N ih =>
   have hT:RT (N + 1):=qb7q ih.1 ih.2
   have hA:RA (N + 1):=qb7p (ih.2 N (Nat.le_refl N))
   refine ⟨fun n hn=>?_,fun n hn=>?_⟩
   ·rcases Nat.lt_or_ge n (N + 1) with h | h
    ·exact ih.1 n (by omega)
    ·rw [show n = N + 1 by omega];exact hA
   ·rcases Nat.lt_or_ge n (N + 1) with h | h
    ·exact ih.2 n (by omega)
    ·rw [show n = N + 1 by omega];exact hT
theorem qt6 {n:Nat} {r:Rd} (hk:ascS r.s) (h0:0≤r.lv) (h1:r.lv≤200) (hn:3 * r.s.length + 2≤n):VM Tryz.prog 40 (rdE r) (rdE (qfa n r).2) [.ptr 0 0] (encY (qfa n r).1):=(qb5z n).2 n (Nat.le_refl n) r hk h0 h1 hn
def qhb (s:List UInt8):Ty×Rd:=qfa (3 * s.length + 2) ⟨s,0,false⟩
def q8v (s:List UInt8):Ty×Int:=if (qhb s).2.bad = true then (Y0,5) else if (qhb s).2.s = [] then (if qjx (qhb s).1 = s then ((qhb s).1,0) else (Y0,5)) else (Y0,5)
def rdOK (s:List UInt8):Prop:=ascS s∧szY (qhb s).1≤20000∧dpY (qhb s).1≤300∧(qjx (qhb s).1).length≤Big
theorem qyl {s:List UInt8} (h:rdOK s):qk Tryz.prog 22 [.str s] (.tup [encY (q8v s).1,.int .i64 (q8v s).2]):=by
 refine qd c0eh (by simp) (by simp only [go_sem]) (by simp [AV.bd,AV.bds,qck]) fun hw=>?_
 obtain ⟨h1,h2,h3,h4⟩:=h
 have hr:=qt6 (n:=3 * s.length + 2) (r:=⟨s,0,false⟩) h1 (Int.le_refl 0) (show (0:Int)≤200 by decide) (Nat.le_refl _)
 have ht:=qnl h2 h3 h4
 have hY:q8v s = if (qhb s).2.bad = true then (Y0,5) else if (qhb s).2.s = [] then (if qjx (qhb s).1 = s then ((qhb s).1,0) else (Y0,5)) else (Y0,5):=rfl
 change VM _ _ _ (rdE (qhb s).2) _ (encY (qhb s).1) at hr
 generalize qhb s = p at *
 cases hb:p.2.bad with
 | true =>
   rw [hb,if_pos rfl] at hY
   rw [hY]
   repeat' (first | refine vs_ ?_ | ((first | refine vr_ ?_ | fail)<;>(try simp only [hb,go_sem,↓reduceIte])) | ((first | (refine cs_ ?_ ?_<;>intro hc) | refine cj_ ?_ | fail | refine qcc 1 hr ?_)<;>(try refine ev_ ?_)) | with_reducible exact ti_)
   all_goals rfl
 | false =>
   rw [hb,if_neg (by simp)] at hY
   rw [hY]
   by_cases he:p.2.s = []
   ·by_cases h5:qjx p.1 = s
    ·rw [if_pos he,if_pos h5]
     repeat' (first | refine vs_ ?_ | ((first | refine vr_ ?_ | fail)<;>(try simp only [hb,he,h5,go_sem,↓reduceIte])) | ((first | (refine cs_ ?_ ?_<;>intro hc) | refine cj_ ?_ | fail | refine qcc 1 hr ?_ | refine qa ht fun _=>?_)<;>(try refine ev_ ?_)) | with_reducible exact ti_)
     all_goals rfl
    ·rw [if_pos he,if_neg h5]
     repeat' (first | refine vs_ ?_ | ((first | refine vr_ ?_ | fail)<;>(try simp only [hb,he,h5,go_sem,↓reduceIte])) | ((first | (refine cs_ ?_ ?_<;>intro hc) | refine cj_ ?_ | fail | refine qcc 1 hr ?_ | refine qa ht fun _=>?_)<;>(try refine ev_ ?_)) | with_reducible exact ti_)
     all_goals rfl
   ·rw [if_neg he]
    repeat' (first | refine vs_ ?_ | ((first | refine vr_ ?_ | fail)<;>(try simp only [hb,he,go_sem,↓reduceIte])) | ((first | (refine cs_ ?_ ?_<;>intro hc) | refine cj_ ?_ | fail | refine qcc 1 hr ?_ | refine qa ht fun _=>?_)<;>(try refine ev_ ?_)) | with_reducible exact ti_)
    all_goals rfl
theorem qbpb {s:List UInt8} {t:Ty} {r:Rd} (h1:qhb s = (t,r)) (h2:s.length < 1000) (h3:s.all (fun b=>decide (b.toNat < 128)) = true) (h4:szY t≤20000) (h5:dpY t≤300) (h6:(qjx t).length≤1000):rdOK s :=
 ⟨by unfold ascS;omega,by rw [h1];exact h4,by rw [h1];exact h5,by rw [h1];unfold Big;dsimp only;omega⟩
end Go.Proofs.YtgglaabljlhliaaGreat
