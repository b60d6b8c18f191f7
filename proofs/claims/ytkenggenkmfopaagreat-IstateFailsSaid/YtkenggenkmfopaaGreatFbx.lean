/- A text of this proof. -/
import Derived.Test.YtkenggenkmfopaaGreatFbp
import Derived.Test.YtkenggenkmfopaaGreatFbw
set_option linter.unusedVariables false
set_option linter.unusedSimpArgs false

/- the statement: the first failure is told, whatever is done behind it -/
set_option maxRecDepth 100000
namespace Go.Proofs.YtkenggenkmfopaaGreat
open Go Go.RowKit Go.V Go.ChangeShapes Go.WideShapes Go.ChangeAt

namespace istateFailsLaw
theorem qzu(H:Type)(enc':TypeId×Value->H)(W:World)(base:Nat)(args:Array Value)(ds gs:List (DataW H))(before:List MemPlace)
 (hval:∀(j:Nat) t v,Tryz.f4.params[j]?=some t->args[j]?=some v->Value.okWide Tryz.prog W .any base t v)
 (hW:DataW.Whole enc' Tryz.prog Tryz.f4.params.toList Rows.istateFailsSpec.vars false W args.toList ds gs before) :
 Calls Tryz.prog 4 args W fun e W'=>∃v,e=.returned v∧Rows.istateFailsSpec.post enc' Tryz.prog Tryz.f4 false true false false W args v W':=by
 have hW':=hW
 obtain⟨p,q,hA0,hV,rfl,hfz,hnd⟩:=hW
 have hA:DataW.TrodAll enc' Tryz.prog W 0 (fun _=>true) true Tryz.f4.params.toList args.toList ds p:=hA0
 rw[Tryz.params4] at hA hval
 obtain⟨v0,vs0,d0,ds0,p0,q0,hargs0,rfl,rfl,h0,r0⟩:=trodAll_cons hA
 obtain⟨v1,vs1,d1,ds1,p1,q1,hargs1,rfl,rfl,h1,r1⟩:=trodAll_cons r0
 subst hargs1
 obtain⟨v2,vs2,d2,ds2,p2,q2,hargs2,rfl,rfl,h2,r2⟩:=trodAll_cons r1
 subst hargs2
 obtain⟨rfl,rfl,rfl⟩:=trodAll_nil r2
 obtain rfl:args = #[v0,v1,v2]:=by cases args;simp_all
 obtain⟨rfl,rfl⟩:=trodVars_none hV
 obtain⟨n0,hn0⟩:=q6v (hval 0 22 v0 rfl rfl) h0
 obtain⟨n1,hn1⟩:=qche (hval 1 50 v1 rfl rfl) h1
 obtain⟨n2,hn2⟩:=q7v (hval 2 25 v2 rfl rfl) h2
 clear hA0
 simp only[List.append_nil] at hW'
 have hc:=(qnv n0 n1 n2).1.2 W (MM W) [] [v0,v1,v2] (stM W) ⟨v0,[v1,v2],rfl,hn0,⟨v1,[v2],rfl,hn1,⟨v2,[],rfl,hn2,rfl⟩⟩⟩
 refine(callsIn_wide.1 hc).mono fun e W' he=>?_
 cases e with
 | outgrown=>exact he.elim
 | panicked c=>obtain⟨M',G',H',v,x,⟨_,q1⟩,_⟩:=he;cases q1
 | returned x =>
   obtain⟨M',G',H',v,⟨_,q1⟩,q2,q3,q4⟩:=he
   cases q1
   simp only[VR] at q4
   subst q4
   have hb:=qcit q2
   have hlt:∀x∈p0++(p1++(p2++[])),x.block<W.heap.size:=fun x hx=>by have:=hW'.lt x (by simpa using hx);exact this
   exact⟨_,rfl,q0b (pa:=p0++(p1++(p2++[]))) (pv:=[]) hW' (fun _ _ _=>trodAll_cons_mk (shut_bool Tryz.underlying4 _) trodAll_mk0) (fun sp hsp=>trodAll_cons_mk (q2a h0 (fun x hx=>hlt x (by simp[hx])) hb (fun x hx=>hsp x (by simp[hx]))) (trodAll_cons_mk (qbu0 h1 (fun x hx=>hlt x (by simp[hx])) hb (fun x hx=>hsp x (by simp[hx]))) (trodAll_cons_mk (q1q h2 (fun x hx=>hlt x (by simp[hx])) hb (fun x hx=>hsp x (by simp[hx]))) trodAll_mk0))) (fun _ _=>rfl) (by simp) hb
    (ok_one (by kernel_rfl) rfl (okWide_bool_mk Tryz.underlying4 _))⟩

set_option maxRecDepth 100000 in
theorem qcma(os:Os)(started:os.Started)(H:Type)(enc':TypeId×Value->H):
 ReturnsInHanded {} Tryz.checked os 4 .any (Rows.istateFailsSpec.pre6 enc' Tryz.prog Tryz.f4 Rows.istateFailsRow.domain false) (Rows.istateFailsSpec.post enc' Tryz.prog Tryz.f4 false true false false):=by
 refine returnsInHanded_of_change (C:=Tryz.checked) own started (by kernel_rfl) Tryz.func4
  (ChangeSpec.witness6 (enc:=enc') (C:=Tryz.checked) false ⟨#[],#[.slice none 0 0,(.agg #[.int .i64 0,.int .i64 0]),(.agg #[.string .empty,.int .i64 0,.slice none 0 0])],[]⟩ 12 (by kernel_rfl) (by kernel_rfl) (by kernel_rfl) (by kernel_rfl)) ?_
 intro W base args ds gs before hval hW _ _
 exact qzu H enc' W base args ds gs before hval hW

theorem over:Rows.istateFailsRow.holds Tryz.pinned (OpenSpec.ofChange Rows.istateFailsSpec) :=
 OpenClaim.holds_of_wide 4 Tryz.f4 rfl rfl rfl rfl rfl rfl rfl ⟨rfl,rfl,rfl,rfl,rfl⟩ rfl rfl rfl rfl rfl (by kernel_rfl) Tryz.func4 (by kernel_rfl)
  (of_decide_eq_true (by kernel_rfl)) (by unfold Func.isWrapper;first | (rw[if_pos (by decide +kernel)];kernel_rfl) | (rw[if_neg (by decide +kernel)];exact⟨rfl,rfl⟩))
  (fun os started H enc' _=>qcma os started H enc')
end istateFailsLaw
theorem istateFails_said:Rows.IstateFailsSaid:=istateFailsLaw.over


end Go.Proofs.YtkenggenkmfopaaGreat
