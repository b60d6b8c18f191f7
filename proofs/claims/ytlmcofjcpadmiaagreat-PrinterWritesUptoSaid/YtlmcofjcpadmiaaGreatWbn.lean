/- A text of this proof. -/
import Derived.Test.YtlmcofjcpadmiaaGreatWbh
import Derived.Test.YtlmcofjcpadmiaaGreatWbm
import Derived.JoinedCond
set_option linter.unusedVariables false
set_option linter.unusedSimpArgs false

/- the statement: trees are written as the reference writes them -/
set_option maxRecDepth 100000
namespace Go.Proofs.YtlmcofjcpadmiaaGreat
open Go Go.RowKit Go.V Go.ChangeShapes Go.WideShapes Go.ChangeAt


namespace printerWritesLaw
theorem qn2 (H:Type) (enc':TypeId×Value->H) (W:World) (base:Nat) (args:Array Value) (ds gs:List (DataW H)) (before:List MemPlace)
 (hval:∀ (j:Nat) t v,Tryz.f3.params[j]? = some t->args[j]? = some v->Value.okWide Tryz.prog W .any base t v)
 (hW:DataW.Whole enc' Tryz.prog Tryz.f3.params.toList Rows.printerWritesSpec.vars false W args.toList ds gs before) (hk:Rows.uptoSmall H (ds ++ gs) = true) :
 Calls Tryz.prog 3 args W fun e W'=>∃ v,e = .returned v∧Rows.printerWritesSpec.post enc' Tryz.prog Tryz.f3 false true false false W args v W':=by
 have hW':=hW
 obtain ⟨p,q,hA0,hV,rfl,hfz,hnd⟩:=hW
 have hA:DataW.TrodAll enc' Tryz.prog W 0 (fun _=>true) true Tryz.f3.params.toList args.toList ds p:=hA0
 rw [Tryz.params3] at hA hval
 obtain ⟨v0,vs0,d0,ds0,p0,q0,hargs0,rfl,rfl,h0,r0⟩:=trodAll_cons hA
 obtain ⟨rfl,rfl,rfl⟩:=trodAll_nil r0
 obtain rfl:args = #[v0]:=by cases args;simp_all
 obtain ⟨rfl,rfl⟩:=trodVars_none hV
 obtain ⟨n0,hn0,hs0⟩:=qru (hval 0 24 v0 rfl rfl) h0
 clear hA0
 simp only [List.append_nil] at hW' hk
 have hK:Rows.uptoBulkAll [d0]≤1048576:=of_decide_eq_true hk
 simp only [Rows.uptoBulkAll] at hK
 have hc:=(qf1 n0 (fun hf=>qbgd _ (by omega))).1.2 W (MM W) [] [v0] (stM W) ⟨v0,[],rfl,hn0,rfl⟩
 refine (callsIn_wide.1 hc).mono fun e W' he=>?_
 cases e with
 | outgrown=>exact he.elim
 | panicked c=>obtain ⟨M',G',H',v,x,⟨_,q1⟩,_⟩:=he;cases q1
 | returned x =>
   obtain ⟨M',G',H',v,⟨_,q1⟩,q2,q3,q4⟩:=he
   cases q1
   simp only [VR] at q4
   subst q4
   have hb:=qbj7 q2
   have hlt:∀ x∈p0 ++ [],x.block < W.heap.size:=fun x hx=>by have:=hW'.lt x (by simpa using hx);exact this
   exact ⟨_,rfl,qpq (pa:=p0 ++ []) (pv:=[]) hW' (fun _ _ _=>trodAll_cons_mk (shut_bool Tryz.underlying4 _) trodAll_mk0) (fun sp hsp=>trodAll_cons_mk (qr0 h0 (fun x hx=>hlt x (by simp [hx])) hb (fun x hx=>hsp x (by simp [hx]))) trodAll_mk0) (fun _ _=>rfl) (by simp) hb
    (ok_one (by kernel_rfl) rfl (okWide_bool_mk Tryz.underlying4 _))⟩

set_option maxRecDepth 100000 in
theorem qbg9 (os:Os) (started:os.Started) (H:Type) (enc':TypeId×Value->H) (F:Stop.Interp) :
 ReturnsInHanded {} Tryz.checked os 3 .any ((Rows.OpenSpec.upto Rows.printerWritesSpec).pre6 enc' Tryz.prog Tryz.f3 Rows.printerWritesUptoRow.domain false) (((Rows.OpenSpec.upto Rows.printerWritesSpec).at F).post enc' Tryz.prog Tryz.f3 false true false false):=by
 refine returnsInHanded_of_cond (C:=Tryz.checked) (s:=Rows.OpenSpec.upto Rows.printerWritesSpec) (k:=Rows.uptoSmall) rfl own started (by kernel_rfl) Tryz.func3
  (OpenSpec.witness (enc:=enc') (C:=Tryz.checked) (s:=Rows.OpenSpec.upto Rows.printerWritesSpec) (k:=Rows.uptoSmall) rfl false ⟨#[],#[(.agg #[.int .i64 0,.int .i64 0,.int .i64 0,.string ⟨#[]⟩,.slice none 0 0])],[]⟩ 12 (by kernel_rfl) (by kernel_rfl) (by kernel_rfl)
   (x:=([.agg [.lit (.int .i64 0),.lit (.int .i64 0),.lit (.int .i64 0),.lit (.string []),.nil]],[],[])) (by kernel_rfl) rfl (by kernel_rfl)) ?_
 intro W base args ds gs before hval hW _ hk _
 exact qn2 H enc' W base args ds gs before hval hW hk

theorem over:Rows.PrinterWritesUptoSaid :=
 OpenClaim.holds_of_cond 3 Tryz.f3 rfl rfl rfl rfl rfl rfl rfl ⟨rfl,rfl,rfl,rfl,rfl⟩ rfl rfl rfl rfl rfl (by kernel_rfl) Tryz.func3 (by kernel_rfl)
  (of_decide_eq_true (by kernel_rfl)) (by unfold Func.isWrapper;first | (rw [if_pos (by decide +kernel)];kernel_rfl) | (rw [if_neg (by decide +kernel)];exact ⟨rfl,rfl⟩))
  (fun os started H enc' _ F=>qbg9 os started H enc' F)
end printerWritesLaw
theorem printerWrites_upto:Rows.PrinterWritesUptoSaid:=printerWritesLaw.over

end Go.Proofs.YtlmcofjcpadmiaaGreat
