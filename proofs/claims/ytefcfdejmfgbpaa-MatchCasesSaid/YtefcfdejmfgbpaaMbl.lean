/- A text of this proof. -/
import Derived.Test.YtefcfdejmfgbpaaMbg
import Derived.Test.YtefcfdejmfgbpaaMbk
set_option linter.unusedVariables false
set_option linter.unusedSimpArgs false

/- the reader of terms: terms -/
set_option maxRecDepth 4000
namespace Go.Proofs.Ytefcfdejmfgbpaa
open Go Go.RowKit Go.V

abbrev z1Y:List AV:=[.str [],.int .i64 0,.nils]
def RA (n:Nat):Prop:=∀ r:Rd,ascS r.s->0≤r.lv->r.lv≤200->3 * r.s.length + 1≤n->VM Try.prog 46 (rdE r) (rdE (qco n r).2) [.ptr 0 0] (encY (qco n r).1)
def RT (n:Nat):Prop:=∀ r:Rd,ascS r.s->0≤r.lv->r.lv≤200->3 * r.s.length + 2≤n->VM Try.prog 32 (rdE r) (rdE (qde n r).2) [.ptr 0 0] (encY (qde n r).1)
theorem qbgc {n:Nat} (hT:RT n):RA (n + 1):=fun r hk h0 h1 hn=>by
 cases hp:pfx [40] r.s with
 | false =>
   rw [qco,if_neg (by simp [hp])]
   exact qsw (n:=n) hp hk
 | true =>
   have hl:=qez hp
   simp only [List.length_cons,List.length_nil] at hl
   rw [qco,if_pos hp]
   exact qws hp (hT (cutR 1 r) (qcs hk 1) h0 h1 (by rw [qep];omega))
theorem q4x {z:Opd} {Q:VE->AF->List Ent->Prop} {af:AF} {H:List Ent}:dfq z Q .nrm af H = ∃ f first caps,gt af z = .fn f first caps∧Q .nrm ⟨af.tm,.dfr (.fn f first caps) [] :: af.dl⟩ H:=rfl
attribute [go_sem] q4x
def dl1:List AD:=[.dfr (.fn 45 [] [.ptr 1 0]) []]
def tmSt (x:Nat×Ty×Rd):AF×List Ent:=(⟨[(1,.ptr 1 0),(2,.ptr 2 0),(3,.ptr 3 0)],dl1⟩,[rdE x.2.2,.blk [.ptr 0 0],.blk z1Y,.blk (yc x.2.1)])
theorem qxk {r:Rd} (hb:r.bad = true∨200 < r.lv + 1) (h0:0≤r.lv) (h1:r.lv≤200):VM Try.prog 32 (rdE r) (rdE (badR true r)) [.ptr 0 0] (encY Y0):=by
 refine qja c0cc 1 (by simp) (by simp) ?_
 have hw:IntKind.i64.wrap (r.lv + 1) = r.lv + 1:=qw (by omega) (by omega)
 unfold k0cc
 by_cases h2:200 < r.lv + 1
 ·refine qb1 ?_
  repeat' (first | refine vs_ ?_ | ((first | refine vr_ ?_ | fail)<;>(try simp only [hw,h2,decide_true,go_sem,↓reduceIte])) | ((first | (refine cs_ ?_ ?_<;>intro hc) | refine cj_ ?_ | simp (disch:=omega) only [encs_getN,qc])<;>(try refine ev_ ?_)) | with_reducible exact ti_)
  refine qtq ?_
  (refine ev_ ?_;(try with_reducible exact ti_))
  refine ⟨_,[],[.ptr 1 0],rfl,?_⟩
  repeat' (first | refine vs_ ?_ | ((first | refine vr_ ?_ | fail)<;>(try simp only [hw,go_sem,↓reduceIte])) | ((first | (refine cs_ ?_ ?_<;>intro hc) | refine cj_ ?_ | simp (disch:=omega) only [encs_getN,qc])<;>(try refine ev_ ?_)) | with_reducible exact ti_)
  refine qio (r:=⟨r.s,r.lv + 1,true⟩) (L:=[.blk z1Y]) (by dsimp only;omega) (by dsimp only;omega) rfl ?_
  (simp (disch:=first | omega | (simp only [List.length_set,List.length_append,List.length_cons,List.length_nil];done) | (simp only [List.length_set,List.length_append,List.length_cons,List.length_nil];omega)) only [Int.add_sub_cancel,go_sem,↓reduceIte])
  rfl
 ·have h3:r.bad = true:=hb.resolve_right h2
  refine qb1 ?_
  repeat' (first | refine vs_ ?_ | ((first | refine vr_ ?_ | fail)<;>(try simp only [hw,h2,h3,decide_false,go_sem,↓reduceIte])) | ((first | (refine cs_ ?_ ?_<;>intro hc) | refine cj_ ?_ | simp (disch:=omega) only [encs_getN,qc])<;>(try refine ev_ ?_)) | with_reducible exact ti_)
  refine qtq ?_
  (refine ev_ ?_;(try with_reducible exact ti_))
  refine ⟨_,[],[.ptr 1 0],rfl,?_⟩
  repeat' (first | refine vs_ ?_ | ((first | refine vr_ ?_ | fail)<;>(try simp only [hw,h3,go_sem,↓reduceIte])) | ((first | (refine cs_ ?_ ?_<;>intro hc) | refine cj_ ?_ | simp (disch:=omega) only [encs_getN,qc])<;>(try refine ev_ ?_)) | with_reducible exact ti_)
  refine qio (r:=⟨r.s,r.lv + 1,true⟩) (L:=[.blk z1Y]) (by dsimp only;omega) (by dsimp only;omega) rfl ?_
  (simp (disch:=first | omega | (simp only [List.length_set,List.length_append,List.length_cons,List.length_nil];done) | (simp only [List.length_set,List.length_append,List.length_cons,List.length_nil];omega)) only [Int.add_sub_cancel,go_sem,↓reduceIte])
  rfl
def tmSf (x:Bool×Nat×Ty×Rd):AF×List Ent :=
 if x.1 = true then (⟨[(1,.ptr 1 0),(2,.ptr 2 0),(3,.ptr 3 0)],dl1⟩,[rdE x.2.2.2,.blk [.ptr 0 0],.blk z1Y,.blk [.str x.2.2.1.con,.int .i64 x.2.2.1.var,.row 4 x.2.2.1.args.length],.app 3 (qn x.2.2.1.args)])
 else tmSt x.2
def tmI (n:Nat) (r0:Rd) (tg:Ty×Rd) (x:Nat×Ty×Rd):Prop:=qiy x.1 x.2.1 x.2.2 = tg∧3 * x.2.2.s.length + 1≤x.1∧x.1≤n∧ascS x.2.2.s∧x.2.2.lv = r0.lv∧x.2.1.args.length + x.2.2.s.length≤r0.s.length
theorem qtb {n:Nat} {r0:Rd} {tg:Ty×Rd} (hA:∀ m,m≤n->RA m) (hk0:r0.s.length < 4294967281) (h0:0≤r0.lv) (h1:r0.lv≤200) {Q:VE->AF->List Ent->Prop} {m t q} (hx:tmI n r0 tg (m,t,q)) :
 VI Try.prog none 67 1 qkg (lq (fun s'=>tmI n r0 tg s'.2∧s'.2.1 < m) tmSf 1 (blq 0 (lq (fun _:Unit=>True) (fun _=>tmSt (0,tg)) 1 Q))) (tmSt (m,t,q)).1 (tmSt (m,t,q)).2:=by
 obtain ⟨e1,e2,e3,e4,e5,e6⟩:=hx
 dsimp only at e1 e2 e3 e4 e5 e6
 obtain ⟨m,rfl⟩:∃ m',m = m' + 1:=⟨m - 1,by omega⟩
 rw [qiy] at e1
 unfold tmSt
 cases hb:q.bad with
 | true =>
   rw [if_neg (by simp [hb])] at e1
   subst e1
   repeat' (first | refine vs_ ?_ | ((first | refine vr_ ?_ | fail)<;>(try simp only [hb,go_sem,↓reduceIte])) | ((first | (refine cs_ ?_ ?_<;>intro hc) | refine cj_ ?_ | simp (disch:=omega) only [encs_getN,qc])<;>(try refine ev_ ?_)) | with_reducible exact ti_)
   refine qu () [0,1,2,3] trivial rfl (by simp) ?_ ?_ ?_<;>simp only [tmSt,dl1]<;>(try refine ev_ ?_)<;>(try with_reducible exact ti_)<;>(try simp (disch:=omega) only [qc,and_true,true_and])
 | false =>
   cases hp:pfx arrS q.s with
   | true =>
     rw [if_neg (by simp [hp])] at e1
     subst e1
     unfold arrS at hp
     repeat' (first | refine vs_ ?_ | ((first | refine vr_ ?_ | fail)<;>(try simp only [hb,hp,go_sem,↓reduceIte])) | ((first | (refine cs_ ?_ ?_<;>intro hc) | refine cj_ ?_ | simp (disch:=omega) only [encs_getN,qc] | refine qa (qf _ _) fun _=>?_ | refine qd (qf _ _) ?_)<;>(try refine ev_ ?_)) | with_reducible exact ti_)
     all_goals first | (exfalso;rw [hp] at hc;cases hc;done) | skip
     refine qu () [0,1,2,3] trivial rfl (by simp) ?_ ?_ ?_<;>simp only [tmSt,dl1]<;>(try refine ev_ ?_)<;>(try with_reducible exact ti_)<;>(try simp (disch:=omega) only [qc,and_true,true_and])
   | false =>
     have hp':=hp
     unfold arrS at hp'
     cases hs:pfx [32] q.s with
     | false =>
       rw [if_neg (by simp [hs])] at e1
       subst e1
       repeat' (first | refine vs_ ?_ | ((first | refine vr_ ?_ | fail)<;>(try simp only [hb,hp',go_sem,↓reduceIte])) | ((first | (refine cs_ ?_ ?_<;>intro hc) | refine cj_ ?_ | simp (disch:=omega) only [encs_getN,qc] | refine qa (qf _ _) fun _=>?_ | refine qbj 0 (qlr (r:=⟨q.s,q.lv,false⟩) hs) ?_ | refine qd (qf _ _) ?_)<;>(try refine ev_ ?_)) | with_reducible exact ti_)
       all_goals first | (exfalso;rw [hp'] at hc;cases hc;done) | skip
       refine qu () [0,1,2,3] trivial rfl (by simp) ?_ ?_ ?_<;>simp only [tmSt,dl1]<;>(try refine ev_ ?_)<;>(try with_reducible exact ti_)<;>(try simp (disch:=omega) only [qc,and_true,true_and])
     | true =>
       rw [if_pos ⟨hb,hp,hs⟩] at e1
       have hl:=qez hs
       simp only [List.length_cons,List.length_nil] at hl
       have hatm:=hA m (by omega) (cutR 1 q) (qcs e4 1) (by show 0≤q.lv;omega) (by show q.lv≤200;omega) (by rw [qep];omega)
       have hsf:=qow (n:=m) (by omega) (cutR 1 q)
       have hcq:cutR 1 q = ⟨q.s.drop 1,q.lv,false⟩:=by rw [cutR,hb]
       rw [hcq] at hatm hsf e1
       generalize qco m ⟨q.s.drop 1,q.lv,false⟩ = p at hatm hsf e1
       repeat' (first | refine vs_ ?_ | ((first | refine vr_ ?_ | fail)<;>(try simp only [hb,hp',go_sem,↓reduceIte])) | ((first | (refine cs_ ?_ ?_<;>intro hc) | refine cj_ ?_ | simp (disch:=omega) only [encs_getN,qc] | refine qa (qf _ _) fun _=>?_ | refine qbj 0 (qi6 (r:=⟨q.s,q.lv,false⟩) hs) ?_ | refine qd (qf _ _) ?_)<;>(try refine ev_ ?_)) | with_reducible exact ti_)
       all_goals first | (exfalso;rw [hp'] at hc;cases hc;done) | skip
       have hnx:tmI n r0 tg (m,.mk t.con t.var (t.args ++ [p.1]),p.2):=by
        obtain ⟨q1,q2,q3⟩:=hsf
        rw [List.length_drop] at q3
        refine ⟨e1,by dsimp only;omega,by dsimp only;omega,?_,q2.trans e5,?_⟩
        ·obtain ⟨j,q1⟩:=q1
         rw [q1]
         exact qcs (qcs e4 1) j
        ·show (t.args ++ [p.1]).length + p.2.s.length≤_
         rw [List.length_append,List.length_singleton];omega
       by_cases ht:t.args = []
       ·refine qys ht ?_
        repeat' (first | refine vs_ ?_ | ((first | refine vr_ ?_ | refine qvz 0 hatm ?_ | (refine cs_ ?_ ?_<;>intro hc) | refine cj_ ?_ | simp (disch:=omega) only [encs_getN,qc])<;>(try refine ev_ ?_)) | with_reducible exact ti_)
        refine qu (true,m,.mk t.con t.var (t.args ++ [p.1]),p.2) [0,1,2,3,4] ⟨hnx,by dsimp only;omega⟩ rfl (by simp) ?_ ?_ ?_<;>simp only [tmSf,dl1,ht,if_true]<;>(try refine ev_ ?_)<;>(try with_reducible exact ti_)<;>(try simp (disch:=omega) only [qc,and_true,true_and])
        all_goals exact ⟨rfl,rfl⟩
       ·refine qwx ht (by omega) ?_
        have hcap:qhy (t.args.length + 1) 48 = True:=eq_true (by unfold qhy;omega)
        repeat' (first | refine vs_ ?_ | ((first | refine vr_ ?_ | refine qvz 0 hatm ?_ | simp (disch:=omega) only [hcap] | (refine cs_ ?_ ?_<;>intro hc) | refine cj_ ?_ | simp (disch:=omega) only [encs_getN,qc])<;>(try refine ev_ ?_)) | with_reducible exact ti_)
        refine qu (true,m,.mk t.con t.var (t.args ++ [p.1]),p.2) [0,1,2,3,5] ⟨hnx,by dsimp only;omega⟩ rfl (by simp) ?_ ?_ ?_<;>simp only [tmSf,dl1,if_true]<;>(try refine ev_ ?_)<;>(try with_reducible exact ti_)<;>(try simp (disch:=omega) only [qc,and_true,true_and])
        all_goals exact ⟨by rw [show (Ty.mk t.con t.var (t.args ++ [p.1])).args.length = t.args.length + 1 by simp [Ty.args]];rfl,by rw [qg5];rfl⟩
theorem qs3 {n:Nat} {r0:Rd} {tg:Ty×Rd} (hA:∀ m,m≤n->RA m) (hk0:r0.s.length < 4294967281) (h0:0≤r0.lv) (h1:r0.lv≤200) {Q:VE->AF->List Ent->Prop} {af:AF} {H:List Ent}
 (hat:At (Bool×Nat×Ty×Rd) (fun x=>tmI n r0 tg x.2) tmSf 1 af H):VI Try.prog none 67 1 (.block 0 (.loop qkg)) (lq (fun _:Unit=>True) (fun _=>tmSt (0,tg)) 1 Q) af H:=by
 refine qpu (qbi (fun x=>tmI n r0 tg x.2) tmSf (fun x=>x.2.1) hat fun x hx=>?_)
 obtain ⟨b,m,t,q⟩:=x
 have hs:=qtb (Q:=Q) hA hk0 h0 h1 hx
 cases b with
 | false=>exact hs
 | true =>
   refine q69 3 2 (.sl 3) rfl ?_
   refine qt5 (S:=Unit) (Inv:=fun _=>True) (st:=fun _=>tmSt (m,t,q)) ?_ fun _ _=>hs
   refine qu () [0,1,2,3] trivial rfl (by simp) ?_ ?_ ?_<;>simp only [tmSt,tmSf,dl1,if_true]<;>(try refine ev_ ?_)<;>(try with_reducible exact ti_)<;>(try simp (disch:=omega) only [qc,and_true,true_and])
end Go.Proofs.Ytefcfdejmfgbpaa
