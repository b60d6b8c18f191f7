/- A text of this proof. -/
import Derived.Test.YtkenggenkmfopaaGreatIbl
import Derived.Test.YtkenggenkmfopaaGreatIcb
import Derived.JoinedCond
set_option linter.unusedVariables false
set_option linter.unusedSimpArgs false

/- the statement: a state that is none has no pattern -/
set_option maxRecDepth 100000
namespace Go.Proofs.YtkenggenkmfopaaGreat
open Go Go.RowKit Go.V Go.ChangeShapes Go.WideShapes Go.ChangeAt


namespace ipatsNoneLaw
theorem qzk(H:Type)(enc':TypeId×Value->H)(W:World)(base:Nat)(args:Array Value)(ds gs:List (DataW H))(before:List MemPlace)
 (hval:∀(j:Nat) t v,Tryz.f6.params[j]?=some t->args[j]?=some v->Value.okWide Tryz.prog W .any base t v)
 (hW:DataW.Whole enc' Tryz.prog Tryz.f6.params.toList Rows.ipatsNoneSpec.vars false W args.toList ds gs before) (hk:Rows.uptoSmall H (ds++gs)=true) :
 Calls Tryz.prog 6 args W fun e W'=>∃v,e=.returned v∧Rows.ipatsNoneSpec.post enc' Tryz.prog Tryz.f6 false true false false W args v W':=by
 have hW':=hW
 obtain⟨p,q,hA0,hV,rfl,hfz,hnd⟩:=hW
 have hA:DataW.TrodAll enc' Tryz.prog W 0 (fun _=>true) true Tryz.f6.params.toList args.toList ds p:=hA0
 rw[Tryz.params6] at hA hval
 obtain⟨v0,vs0,d0,ds0,p0,q0,hargs0,rfl,rfl,h0,r0⟩:=trodAll_cons hA
 obtain⟨v1,vs1,d1,ds1,p1,q1,hargs1,rfl,rfl,h1,r1⟩:=trodAll_cons r0
 subst hargs1
 obtain⟨rfl,rfl,rfl⟩:=trodAll_nil r1
 obtain rfl:args = #[v0,v1]:=by cases args;simp_all
 obtain⟨rfl,rfl⟩:=trodVars_none hV
 obtain⟨n0,hn0,hs0⟩:=qbla (hval 0 76 v0 rfl rfl) h0
 obtain⟨n1,hn1,hs1⟩:=qbbb (hval 1 79 v1 rfl rfl) h1
 clear hA0
 simp only[List.append_nil] at hW' hk
 have hK:Rows.uptoBulkAll [d0,d1]≤1048576:=of_decide_eq_true hk
 simp only[Rows.uptoBulkAll] at hK
 have hc:=(qo3 n0 n1 (q7j (K:=1048576) (by omega))).1.2 W (MM W) [] [v0,v1] (stM W) ⟨v0,[v1],rfl,hn0,⟨v1,[],rfl,hn1,rfl⟩⟩
 refine(callsIn_wide.1 hc).mono fun e W' he=>?_
 cases e with
 | outgrown=>exact he.elim
 | panicked c=>obtain⟨M',G',H',v,x,⟨_,q1⟩,_⟩:=he;cases q1
 | returned x =>
   obtain⟨M',G',H',v,⟨_,q1⟩,q2,q3,q4⟩:=he
   cases q1
   simp only[VR] at q4
   subst q4
   have hb:=qce4 q2
   have hlt:∀x∈p0++(p1++[]),x.block<W.heap.size:=fun x hx=>by have:=hW'.lt x (by simpa using hx);exact this
   exact⟨_,rfl,q2a (pa:=p0++(p1++[])) (pv:=[]) hW' (fun _ _ _=>trodAll_cons_mk (shut_bool Tryz.underlying4 _) trodAll_mk0) (fun sp hsp=>trodAll_cons_mk (q88 h0 (fun x hx=>hlt x (by simp[hx])) hb (fun x hx=>hsp x (by simp[hx]))) (trodAll_cons_mk (q07 h1 (fun x hx=>hlt x (by simp[hx])) hb (fun x hx=>hsp x (by simp[hx]))) trodAll_mk0)) (fun _ _=>rfl) (by simp) hb
    (ok_one (by kernel_rfl) rfl (okWide_bool_mk Tryz.underlying4 _))⟩

set_option maxRecDepth 100000 in
theorem qci5(os:Os)(started:os.Started)(H:Type)(enc':TypeId×Value->H)(F:Stop.Interp):
 ReturnsInHanded {} Tryz.checked os 6 .any ((Rows.OpenSpec.upto Rows.ipatsNoneSpec).pre6 enc' Tryz.prog Tryz.f6 Rows.ipatsNoneUptoRow.domain false) (((Rows.OpenSpec.upto Rows.ipatsNoneSpec).at F).post enc' Tryz.prog Tryz.f6 false true false false):=by
 refine returnsInHanded_of_cond (C:=Tryz.checked) (s:=Rows.OpenSpec.upto Rows.ipatsNoneSpec) (k:=Rows.uptoSmall) rfl own started (by kernel_rfl) Tryz.func6
  (OpenSpec.witness (enc:=enc') (C:=Tryz.checked) (s:=Rows.OpenSpec.upto Rows.ipatsNoneSpec) (k:=Rows.uptoSmall) rfl false ⟨#[],#[(.agg #[.slice none 0 0,.slice none 0 0,.slice none 0 0]),(.agg #[.int .i64 0,.int .i64 0,.int .i64 0,.string .empty,.slice none 0 0])],[]⟩ 12 (by kernel_rfl) (by kernel_rfl) (by kernel_rfl)
   (x:=([.agg [.nil,.nil,.nil],.agg [.lit (.int .i64 0),.lit (.int .i64 0),.lit (.int .i64 0),.lit (.string []),.nil]],[],[])) (by kernel_rfl) rfl (by kernel_rfl)) ?_
 intro W base args ds gs before hval hW _ hk _
 exact qzk H enc' W base args ds gs before hval hW hk

theorem over:Rows.IpatsNoneUptoSaid :=
 OpenClaim.holds_of_cond 6 Tryz.f6 rfl rfl rfl rfl rfl rfl rfl ⟨rfl,rfl,rfl,rfl,rfl⟩ rfl rfl rfl rfl rfl (by kernel_rfl) Tryz.func6 (by kernel_rfl)
  (of_decide_eq_true (by kernel_rfl)) (by unfold Func.isWrapper;first | (rw[if_pos (by decide +kernel)];kernel_rfl) | (rw[if_neg (by decide +kernel)];exact⟨rfl,rfl⟩))
  (fun os started H enc' _ F=>qci5 os started H enc' F)
end ipatsNoneLaw
theorem ipatsNone_upto:Rows.IpatsNoneUptoSaid:=ipatsNoneLaw.over


end Go.Proofs.YtkenggenkmfopaaGreat
