/- A text of this proof. -/
import Derived.Test.YtlahgbhhejkgbaaKaw
set_option linter.unusedVariables false
set_option linter.unusedSimpArgs false

/- the reader of terms: terms -/
set_option maxRecDepth 4000
namespace Go.Proofs.Ytlahgbhhejkgbaa
open Go Go.RowKit Go.V

abbrev z1Y:List AV:=[.str [],.int .i64 0,.nils]
def RA (n:Nat):Prop:=∀ r:Rd,ascS r.s->0≤r.lv->r.lv≤200->3 * r.s.length + 1≤n->VM Try.prog 72 (rdE r) (rdE (qbp n r).2) [.ptr 0 0] (encY (qbp n r).1)
def RT (n:Nat):Prop:=∀ r:Rd,ascS r.s->0≤r.lv->r.lv≤200->3 * r.s.length + 2≤n->VM Try.prog 53 (rdE r) (rdE (qcg n r).2) [.ptr 0 0] (encY (qcg n r).1)
theorem qbd6 {n:Nat} (hT:RT n):RA (n + 1):=fun r hk h0 h1 hn=>by
 cases hp:pfx [40] r.s with
 | false =>
   rw [qbp,if_neg (by simp [hp])]
   exact qul (n:=n) hp hk
 | true =>
   have hl:=qdy hp
   simp only [List.length_cons,List.length_nil] at hl
   rw [qbp,if_pos hp]
   exact qwq hp (hT (cutR 1 r) (qc0 hk 1) h0 h1 (by rw [qcb];omega))
theorem q1r {z:Opd} {Q:VE->AF->List Ent->Prop} {af:AF} {H:List Ent}:dfq z Q .nrm af H = ∃ f first caps,gt af z = .fn f first caps∧Q .nrm ⟨af.tm,.dfr (.fn f first caps) [] :: af.dl⟩ H:=rfl
attribute [go_sem] q1r
def dl1:List AD:=[.dfr (.fn 71 [] [.ptr 1 0]) []]
def tmSt (x:Nat×Ty×Rd):AF×List Ent:=(⟨[(1,.ptr 1 0),(2,.ptr 2 0),(3,.ptr 3 0)],dl1⟩,[rdE x.2.2,.blk [.ptr 0 0],.blk z1Y,.blk (yc x.2.1)])
theorem qww {r:Rd} (hb:r.bad = true∨200 < r.lv + 1) (h0:0≤r.lv) (h1:r.lv≤200):VM Try.prog 53 (rdE r) (rdE (badR true r)) [.ptr 0 0] (encY Y0):=by
 refine qjg c0c 1 (by simp) (by simp) ?_
 have hw:IntKind.i64.wrap (r.lv + 1) = r.lv + 1:=qv (by omega) (by omega)
 unfold k0c
 by_cases h2:200 < r.lv + 1
 ·refine qb8 ?_
  repeat' (first | refine vs_ ?_ | ((first | refine vr_ ?_ | fail)<;>(try simp only [hw,h2,decide_true,go_sem,↓reduceIte])) | ((first | (refine cs_ ?_ ?_<;>intro hc) | refine cj_ ?_ | simp (disch:=omega) only [encs_getN,qd])<;>(try refine ev_ ?_)) | with_reducible exact ti_)
  refine qrj ?_
  (refine ev_ ?_;(try with_reducible exact ti_))
  refine ⟨_,[],[.ptr 1 0],rfl,?_⟩
  repeat' (first | refine vs_ ?_ | ((first | refine vr_ ?_ | fail)<;>(try simp only [hw,go_sem,↓reduceIte])) | ((first | (refine cs_ ?_ ?_<;>intro hc) | refine cj_ ?_ | simp (disch:=omega) only [encs_getN,qd])<;>(try refine ev_ ?_)) | with_reducible exact ti_)
  refine qh7 (r:=⟨r.s,r.lv + 1,true⟩) (L:=[.blk z1Y]) (by dsimp only;omega) (by dsimp only;omega) rfl ?_
  (simp (disch:=first | omega | (simp only [List.length_set,List.length_append,List.length_cons,List.length_nil];done) | (simp only [List.length_set,List.length_append,List.length_cons,List.length_nil];omega)) only [Int.add_sub_cancel,go_sem,↓reduceIte])
  rfl
 ·have h3:r.bad = true:=hb.resolve_right h2
  refine qb8 ?_
  repeat' (first | refine vs_ ?_ | ((first | refine vr_ ?_ | fail)<;>(try simp only [hw,h2,h3,decide_false,go_sem,↓reduceIte])) | ((first | (refine cs_ ?_ ?_<;>intro hc) | refine cj_ ?_ | simp (disch:=omega) only [encs_getN,qd])<;>(try refine ev_ ?_)) | with_reducible exact ti_)
  refine qrj ?_
  (refine ev_ ?_;(try with_reducible exact ti_))
  refine ⟨_,[],[.ptr 1 0],rfl,?_⟩
  repeat' (first | refine vs_ ?_ | ((first | refine vr_ ?_ | fail)<;>(try simp only [hw,h3,go_sem,↓reduceIte])) | ((first | (refine cs_ ?_ ?_<;>intro hc) | refine cj_ ?_ | simp (disch:=omega) only [encs_getN,qd])<;>(try refine ev_ ?_)) | with_reducible exact ti_)
  refine qh7 (r:=⟨r.s,r.lv + 1,true⟩) (L:=[.blk z1Y]) (by dsimp only;omega) (by dsimp only;omega) rfl ?_
  (simp (disch:=first | omega | (simp only [List.length_set,List.length_append,List.length_cons,List.length_nil];done) | (simp only [List.length_set,List.length_append,List.length_cons,List.length_nil];omega)) only [Int.add_sub_cancel,go_sem,↓reduceIte])
  rfl
def tmSf (x:Bool×Nat×Ty×Rd):AF×List Ent :=
 if x.1 = true then (⟨[(1,.ptr 1 0),(2,.ptr 2 0),(3,.ptr 3 0)],dl1⟩,[rdE x.2.2.2,.blk [.ptr 0 0],.blk z1Y,.blk [.str x.2.2.1.con,.int .i64 x.2.2.1.var,.row 4 x.2.2.1.args.length],.app 3 (qk x.2.2.1.args)])
 else tmSt x.2
def tmI (n:Nat) (r0:Rd) (tg:Ty×Rd) (x:Nat×Ty×Rd):Prop:=qdb x.1 x.2.1 x.2.2 = tg∧3 * x.2.2.s.length + 1≤x.1∧x.1≤n∧ascS x.2.2.s∧x.2.2.lv = r0.lv∧x.2.1.args.length + x.2.2.s.length≤r0.s.length
theorem qs0 {n:Nat} {r0:Rd} {tg:Ty×Rd} (hA:∀ m,m≤n->RA m) (hk0:r0.s.length < 4294967281) (h0:0≤r0.lv) (h1:r0.lv≤200) {Q:VE->AF->List Ent->Prop} {m t q} (hx:tmI n r0 tg (m,t,q)) :
 VI Try.prog none 67 1 qn6 (lq (fun s'=>tmI n r0 tg s'.2∧s'.2.1 < m) tmSf 1 (blq 0 (lq (fun _:Unit=>True) (fun _=>tmSt (0,tg)) 1 Q))) (tmSt (m,t,q)).1 (tmSt (m,t,q)).2:=by
 obtain ⟨e1,e2,e3,e4,e5,e6⟩:=hx
 dsimp only at e1 e2 e3 e4 e5 e6
 obtain ⟨m,rfl⟩:∃ m',m = m' + 1:=⟨m - 1,by omega⟩
 rw [qdb] at e1
 unfold tmSt
 cases hb:q.bad with
 | true =>
   rw [if_neg (by simp [hb])] at e1
   subst e1
   repeat' (first | refine vs_ ?_ | ((first | refine vr_ ?_ | fail)<;>(try simp only [hb,go_sem,↓reduceIte])) | ((first | (refine cs_ ?_ ?_<;>intro hc) | refine cj_ ?_ | simp (disch:=omega) only [encs_getN,qd])<;>(try refine ev_ ?_)) | with_reducible exact ti_)
   refine qx () [0,1,2,3] trivial rfl (by simp) ?_ ?_ ?_<;>simp only [tmSt,dl1]<;>(try refine ev_ ?_)<;>(try with_reducible exact ti_)<;>(try simp (disch:=omega) only [qd,and_true,true_and])
 | false =>
   cases hp:pfx arrS q.s with
   | true =>
     rw [if_neg (by simp [hp])] at e1
     subst e1
     unfold arrS at hp
     repeat' (first | refine vs_ ?_ | ((first | refine vr_ ?_ | fail)<;>(try simp only [hb,hp,go_sem,↓reduceIte])) | ((first | (refine cs_ ?_ ?_<;>intro hc) | refine cj_ ?_ | simp (disch:=omega) only [encs_getN,qd] | refine qa (qh _ _) fun _=>?_ | refine qc (qh _ _) ?_)<;>(try refine ev_ ?_)) | with_reducible exact ti_)
     all_goals first | (exfalso;rw [hp] at hc;cases hc;done) | skip
     refine qx () [0,1,2,3] trivial rfl (by simp) ?_ ?_ ?_<;>simp only [tmSt,dl1]<;>(try refine ev_ ?_)<;>(try with_reducible exact ti_)<;>(try simp (disch:=omega) only [qd,and_true,true_and])
   | false =>
     have hp':=hp
     unfold arrS at hp'
     cases hs:pfx [32] q.s with
     | false =>
       rw [if_neg (by simp [hs])] at e1
       subst e1
       repeat' (first | refine vs_ ?_ | ((first | refine vr_ ?_ | fail)<;>(try simp only [hb,hp',go_sem,↓reduceIte])) | ((first | (refine cs_ ?_ ?_<;>intro hc) | refine cj_ ?_ | simp (disch:=omega) only [encs_getN,qd] | refine qa (qh _ _) fun _=>?_ | refine qbr 0 (ql0 (r:=⟨q.s,q.lv,false⟩) hs) ?_ | refine qc (qh _ _) ?_)<;>(try refine ev_ ?_)) | with_reducible exact ti_)
       all_goals first | (exfalso;rw [hp'] at hc;cases hc;done) | skip
       refine qx () [0,1,2,3] trivial rfl (by simp) ?_ ?_ ?_<;>simp only [tmSt,dl1]<;>(try refine ev_ ?_)<;>(try with_reducible exact ti_)<;>(try simp (disch:=omega) only [qd,and_true,true_and])
     | true =>
       rw [if_pos ⟨hb,hp,hs⟩] at e1
       have hl:=qdy hs
       simp only [List.length_cons,List.length_nil] at hl
       have hatm:=hA m (by omega) (cutR 1 q) (qc0 e4 1) (by show 0≤q.lv;omega) (by show q.lv≤200;omega) (by rw [qcb];omega)
       have hsf:=qn2 (n:=m) (by omega) (cutR 1 q)
       have hcq:cutR 1 q = ⟨q.s.drop 1,q.lv,false⟩:=by rw [cutR,hb]
       rw [hcq] at hatm hsf e1
       generalize qbp m ⟨q.s.drop 1,q.lv,false⟩ = p at hatm hsf e1
       repeat' (first | refine vs_ ?_ | ((first | refine vr_ ?_ | fail)<;>(try simp only [hb,hp',go_sem,↓reduceIte])) | ((first | (refine cs_ ?_ ?_<;>intro hc) | refine cj_ ?_ | simp (disch:=omega) only [encs_getN,qd] | refine qa (qh _ _) fun _=>?_ | refine qbr 0 (qjh (r:=⟨q.s,q.lv,false⟩) hs) ?_ | refine qc (qh _ _) ?_)<;>(try refine ev_ ?_)) | with_reducible exact ti_)
       all_goals first | (exfalso;rw [hp'] at hc;cases hc;done) | skip
       have hnx:tmI n r0 tg (m,.mk t.con t.var (t.args ++ [p.1]),p.2):=by
        obtain ⟨q1,q2,q3⟩:=hsf
        rw [List.length_drop] at q3
        refine ⟨e1,by dsimp only;omega,by dsimp only;omega,?_,q2.trans e5,?_⟩
        ·obtain ⟨j,q1⟩:=q1
         rw [q1]
         exact qc0 (qc0 e4 1) j
        ·show (t.args ++ [p.1]).length + p.2.s.length≤_
         rw [List.length_append,List.length_singleton];omega
       by_cases ht:t.args = []
       ·refine qu6 ht ?_
        repeat' (first | refine vs_ ?_ | ((first | refine vr_ ?_ | refine q3o 0 hatm ?_ | (refine cs_ ?_ ?_<;>intro hc) | refine cj_ ?_ | simp (disch:=omega) only [encs_getN,qd])<;>(try refine ev_ ?_)) | with_reducible exact ti_)
        refine qx (true,m,.mk t.con t.var (t.args ++ [p.1]),p.2) [0,1,2,3,4] ⟨hnx,by dsimp only;omega⟩ rfl (by simp) ?_ ?_ ?_<;>simp only [tmSf,dl1,ht,if_true]<;>(try refine ev_ ?_)<;>(try with_reducible exact ti_)<;>(try simp (disch:=omega) only [qd,and_true,true_and])
        all_goals exact ⟨rfl,rfl⟩
       ·refine qwm ht (by omega) ?_
        have hcap:qc3 (t.args.length + 1) 48 = True:=eq_true (by unfold qc3;omega)
        repeat' (first | refine vs_ ?_ | ((first | refine vr_ ?_ | refine q3o 0 hatm ?_ | simp (disch:=omega) only [hcap] | (refine cs_ ?_ ?_<;>intro hc) | refine cj_ ?_ | simp (disch:=omega) only [encs_getN,qd])<;>(try refine ev_ ?_)) | with_reducible exact ti_)
        refine qx (true,m,.mk t.con t.var (t.args ++ [p.1]),p.2) [0,1,2,3,5] ⟨hnx,by dsimp only;omega⟩ rfl (by simp) ?_ ?_ ?_<;>simp only [tmSf,dl1,if_true]<;>(try refine ev_ ?_)<;>(try with_reducible exact ti_)<;>(try simp (disch:=omega) only [qd,and_true,true_and])
        all_goals exact ⟨by rw [show (Ty.mk t.con t.var (t.args ++ [p.1])).args.length = t.args.length + 1 by simp [Ty.args]];rfl,by rw [qes];rfl⟩
theorem qr4 {n:Nat} {r0:Rd} {tg:Ty×Rd} (hA:∀ m,m≤n->RA m) (hk0:r0.s.length < 4294967281) (h0:0≤r0.lv) (h1:r0.lv≤200) {Q:VE->AF->List Ent->Prop} {af:AF} {H:List Ent}
 (hat:At (Bool×Nat×Ty×Rd) (fun x=>tmI n r0 tg x.2) tmSf 1 af H):VI Try.prog none 67 1 (.block 0 (.loop qn6)) (lq (fun _:Unit=>True) (fun _=>tmSt (0,tg)) 1 Q) af H:=by
 refine qn9 (qbf (fun x=>tmI n r0 tg x.2) tmSf (fun x=>x.2.1) hat fun x hx=>?_)
 obtain ⟨b,m,t,q⟩:=x
 have hs:=qs0 (Q:=Q) hA hk0 h0 h1 hx
 cases b with
 | false=>exact hs
 | true =>
   refine qr3 3 2 (.sl 3) rfl ?_
   refine quk (S:=Unit) (Inv:=fun _=>True) (st:=fun _=>tmSt (m,t,q)) ?_ fun _ _=>hs
   refine qx () [0,1,2,3] trivial rfl (by simp) ?_ ?_ ?_<;>simp only [tmSt,tmSf,dl1,if_true]<;>(try refine ev_ ?_)<;>(try with_reducible exact ti_)<;>(try simp (disch:=omega) only [qd,and_true,true_and])
end Go.Proofs.Ytlahgbhhejkgbaa
