/- A text of this proof. -/
import Derived.Test.YtkenggenkmfopaaGreatNbw
import Derived.Test.YtkenggenkmfopaaGreatNbx
set_option linter.unusedVariables false
set_option linter.unusedSimpArgs false

/- the statement: a state that is none -/
set_option maxRecDepth 100000
namespace Go.Proofs.YtkenggenkmfopaaGreat
open Go Go.RowKit Go.V Go.ChangeShapes Go.WideShapes Go.ChangeAt

theorem quw (d:Dd):qi Tryz.prog 5 [encD d] (.bool true):=qk7 qbo1 d

namespace istateNoneLaw
theorem qt9 (H:Type) (enc':TypeId×Value->H) (W:World) (base:Nat) (args:Array Value) (ds gs:List (DataW H)) (before:List MemPlace)
 (hval:∀ (j:Nat) t v,Tryz.f5.params[j]? = some t->args[j]? = some v->Value.okWide Tryz.prog W .any base t v)
 (hW:DataW.Whole enc' Tryz.prog Tryz.f5.params.toList Rows.istateNoneSpec.vars false W args.toList ds gs before) :
 Calls Tryz.prog 5 args W fun e W'=>∃ v,e = .returned v∧Rows.istateNoneSpec.post enc' Tryz.prog Tryz.f5 false true false false W args v W':=by
 have hW':=hW
 obtain ⟨p,q,hA0,hV,rfl,hfz,hnd⟩:=hW
 have hA:DataW.TrodAll enc' Tryz.prog W 0 (fun _=>true) true Tryz.f5.params.toList args.toList ds p:=hA0
 rw [Tryz.params5] at hA hval
 obtain ⟨v0,vs0,d0,ds0,p0,q0,hargs0,rfl,rfl,h0,r0⟩:=trodAll_cons hA
 obtain ⟨rfl,rfl,rfl⟩:=trodAll_nil r0
 obtain rfl:args = #[v0]:=by cases args;simp_all
 obtain ⟨rfl,rfl⟩:=trodVars_none hV
 obtain ⟨n0,hn0⟩:=q6d (hval 0 46 v0 rfl rfl) h0
 clear hA0
 simp only [List.append_nil] at hW'
 have hc:=(quw n0).1.2 W (MM W) [] [v0] (stM W) ⟨v0,[],rfl,hn0,rfl⟩
 refine (callsIn_wide.1 hc).mono fun e W' he=>?_
 cases e with
 | outgrown=>exact he.elim
 | panicked c=>obtain ⟨M',G',H',v,x,⟨_,q1⟩,_⟩:=he;cases q1
 | returned x =>
   obtain ⟨M',G',H',v,⟨_,q1⟩,q2,q3,q4⟩:=he
   cases q1
   simp only [VR] at q4
   subst q4
   have hb:=qbx4 q2
   have hlt:∀ x∈p0 ++ [],x.block < W.heap.size:=fun x hx=>by have:=hW'.lt x (by simpa using hx);exact this
   exact ⟨_,rfl,qu6 (pa:=p0 ++ []) (pv:=[]) hW' (fun _ _ _=>trodAll_cons_mk (shut_bool Tryz.underlying4 _) trodAll_mk0) (fun sp hsp=>trodAll_cons_mk (qzy h0 (fun x hx=>hlt x (by simp [hx])) hb (fun x hx=>hsp x (by simp [hx]))) trodAll_mk0) (fun _ _=>rfl) (by simp) hb
    (ok_one (by kernel_rfl) rfl (okWide_bool_mk Tryz.underlying4 _))⟩

set_option maxRecDepth 100000 in
theorem qbud (os:Os) (started:os.Started) (H:Type) (enc':TypeId×Value->H) :
 ReturnsInHanded {} Tryz.checked os 5 .any (Rows.istateNoneSpec.pre6 enc' Tryz.prog Tryz.f5 Rows.istateNoneRow.domain false) (Rows.istateNoneSpec.post enc' Tryz.prog Tryz.f5 false true false false):=by
 refine returnsInHanded_of_change (C:=Tryz.checked) own started (by kernel_rfl) Tryz.func5
  (ChangeSpec.witness6 (enc:=enc') (C:=Tryz.checked) false ⟨#[],#[(.agg #[.int .i64 0,.int .i64 0,.int .i64 0,.string .empty,.string .empty,.int .i64 0,.slice none 0 0,.string .empty,.int .i64 0,.slice none 0 0,.int .i64 0,.int .i64 0,.string .empty,.slice none 0 0,.slice none 0 0,.slice none 0 0])],[]⟩ 12 (by kernel_rfl) (by kernel_rfl) (by kernel_rfl) (by kernel_rfl)) ?_
 intro W base args ds gs before hval hW _ _
 exact qt9 H enc' W base args ds gs before hval hW

theorem over:Rows.istateNoneRow.holds Tryz.pinned (OpenSpec.ofChange Rows.istateNoneSpec) :=
 OpenClaim.holds_of_wide 5 Tryz.f5 rfl rfl rfl rfl rfl rfl rfl ⟨rfl,rfl,rfl,rfl,rfl⟩ rfl rfl rfl rfl rfl (by kernel_rfl) Tryz.func5 (by kernel_rfl)
  (of_decide_eq_true (by kernel_rfl)) (by unfold Func.isWrapper;first | (rw [if_pos (by decide +kernel)];kernel_rfl) | (rw [if_neg (by decide +kernel)];exact ⟨rfl,rfl⟩))
  (fun os started H enc' _=>qbud os started H enc')
end istateNoneLaw
theorem istateNone_said:Rows.IstateNoneSaid:=istateNoneLaw.over


end Go.Proofs.YtkenggenkmfopaaGreat
