/- Texts of this proof, joined. -/
import Derived.Test.YtlahgbhhejkgbaaTbi
import Derived.Test.YtlahgbhhejkgbaaTbf
import Derived.JoinedCond
set_option linter.unusedVariables false
set_option linter.unusedSimpArgs false

/- terms: the laws of texts -/
set_option maxRecDepth 4000
namespace Go.Proofs.Ytlahgbhhejkgbaa
open Go Go.RowKit Go.V

theorem qn4 {t:Ty} (h1:szY t≤20000) (hl:(qbm t).length≤Big):qg Try.prog 32 [encY t] (.str (qbm t)):=by
 refine qd c0cf (by simp) (by simp only [go_sem]) rfl fun hw=>?_
 have hL:=qgk h1
 cases h:qbd t with
 | false =>
   have e:qbm t = []:=by rw [qbm,if_neg (by rw [h];simp)]
   rw [e]
   rw [h] at hL
   repeat' (first | refine vs_ ?_ | ((first | refine vr_ ?_ | refine qa hL fun _=>?_ | (refine cs_ ?_ ?_<;>intro hc) | refine cj_ ?_ | fail)<;>(try refine ev_ ?_)) | with_reducible exact ti_)
 | true =>
   have e:qbm t = txtY t:=by rw [qbm,if_pos h]
   rw [e] at hl ⊢
   rw [h] at hL
   repeat' (first | refine vs_ ?_ | ((first | refine vr_ ?_ | refine qa hL fun _=>?_ | refine qa (qi7 t (qbf h) hl) fun _=>?_ | (refine cs_ ?_ ?_<;>intro hc) | refine cj_ ?_ | fail)<;>(try refine ev_ ?_)) | with_reducible exact ti_)
theorem qux (t:Ty):qg Try.prog 23 [encY t,encY t] (.bool true):=qj5 (qqs t t) (by rw [qt4])
set_option maxHeartbeats 2000000 in
theorem qtu (t:Ty) (s:List UInt8) (hl:(qbm t).length≤Big):qg Try.prog 6 [encY t,.str s] (.bool true):=by
 refine qd c0cg (by simp) (by simp only [AV.bds,AV.bd,qbq,Bool.and_true]) rfl fun hw=>?_
 have h10:decide ((1:Int) = 0) = false:=rfl
 by_cases hf:qfu [t] = true
 case neg =>
  have hf:qfu [t] = false:=by simpa using hf
  repeat' (first | refine vs_ ?_ | ((first | refine vr_ ?_ | refine qa (q0c hf) fun _=>?_ | refine qa qf3 fun _=>?_ | refine qf (q0c hf) ?_ | refine qf qf3 ?_ | (refine cs_ ?_ ?_<;>intro hc) | refine cj_ ?_ | fail)<;>(try refine ev_ ?_)) | with_reducible exact ti_)
 obtain ⟨h1,h2⟩:=q8b (l:=[t]) (by simp [maxLen]) hf (x:=t) (by simp)
 by_cases hs:3000 < (s.length:Int)
 ·repeat' (first | refine vs_ ?_ | ((first | refine vr_ ?_ | fail)<;>(try simp only [h10,hs,decide_true,go_sem,↓reduceIte])) | ((first | (refine cs_ ?_ ?_<;>intro hc) | refine cj_ ?_ | fail | refine qa (qke hf) fun _=>?_ | refine qa qf3 fun _=>?_ | refine qf (qke hf) ?_ | refine qf qf3 ?_)<;>(try refine ev_ ?_)) | with_reducible exact ti_)
 have hR:=qne (s:=s) (by unfold ascS;omega) (by omega)
 have hR2:=qqh (s:=s) (by omega)
 have hT:=qib h1 hl
 have hT2:=qn4 h1 hl
 generalize qd4 s = q at hR hR2
 generalize qbm t = x at hT hT2
 repeat' (first | refine vs_ ?_ | ((first | refine vr_ ?_ | fail)<;>(try simp only [h10,hs,decide_false,decide_true,go_sem,↓reduceIte])) | ((first | (refine cs_ ?_ ?_<;>intro hc) | refine cj_ ?_ | fail | refine qa (qke hf) fun _=>?_ | refine qa hR fun _=>?_ | refine qa hR2 fun _=>?_ | refine qa hT fun _=>?_ | refine qa hT2 fun _=>?_ | refine qa (qux q.1) fun _=>?_ | refine qa qf3 fun _=>?_ | refine qf (qke hf) ?_ | refine qf hR ?_ | refine qf hR2 ?_ | refine qf hT ?_ | refine qf hT2 ?_ | refine qf (qux q.1) ?_ | refine qf qf3 ?_)<;>(try refine ev_ ?_)) | with_reducible exact ti_)
 all_goals trace_state
end Go.Proofs.Ytlahgbhhejkgbaa

/- the statement: any type as a text; the type of any text -/
set_option maxRecDepth 100000
namespace Go.Proofs.Ytlahgbhhejkgbaa
open Go Go.RowKit Go.V Go.ChangeShapes Go.WideShapes Go.ChangeAt


namespace termsTextsLaw
theorem qpi (H:Type) (enc':TypeId×Value->H) (W:World) (base:Nat) (args:Array Value) (ds gs:List (DataW H)) (before:List MemPlace)
 (hval:∀ (j:Nat) t v,Try.f6.params[j]? = some t->args[j]? = some v->Value.okWide Try.prog W .any base t v)
 (hW:DataW.Whole enc' Try.prog Try.f6.params.toList Rows.termsTextsSpec.vars false W args.toList ds gs before) (hk:Rows.uptoSmall H (ds ++ gs) = true) :
 Calls Try.prog 6 args W fun e W'=>∃ v,e = .returned v∧Rows.termsTextsSpec.post enc' Try.prog Try.f6 false true false false W args v W':=by
 have hW':=hW
 obtain ⟨p,q,hA0,hV,rfl,hfz,hnd⟩:=hW
 have hA:DataW.TrodAll enc' Try.prog W 0 (fun _=>true) true Try.f6.params.toList args.toList ds p:=hA0
 rw [Try.params6] at hA hval
 obtain ⟨v0,vs0,d0,ds0,p0,q0,hargs0,rfl,rfl,h0,r0⟩:=trodAll_cons hA
 obtain ⟨v1,vs1,d1,ds1,p1,q1,hargs1,rfl,rfl,h1,r1⟩:=trodAll_cons r0
 subst hargs1
 obtain ⟨rfl,rfl,rfl⟩:=trodAll_nil r1
 obtain rfl:args = #[v0,v1]:=by cases args;simp_all
 obtain ⟨rfl,rfl⟩:=trodVars_none hV
 obtain ⟨n0,hn0,hs0⟩:=qs8 (hval 0 24 v0 rfl rfl) h0
 obtain ⟨n1,hn1,hs1⟩:=qyo (hval 1 9 v1 rfl rfl) h1
 clear hA0
 simp only [List.append_nil] at hW' hk
 have hK:Rows.uptoBulkAll [d0,d1]≤1048576:=of_decide_eq_true hk
 simp only [Rows.uptoBulkAll] at hK
 have hc:=(qtu n0 n1 (q69 (qvr (qbi2 hn0) (by omega)))).1.2 W (MM W) [] [v0,v1] (stM W) ⟨v0,[v1],rfl,hn0,⟨v1,[],rfl,hn1,rfl⟩⟩
 refine (callsIn_wide.1 hc).mono fun e W' he=>?_
 cases e with
 | outgrown=>exact he.elim
 | panicked c=>obtain ⟨M',G',H',v,x,⟨_,q1⟩,_⟩:=he;cases q1
 | returned x =>
   obtain ⟨M',G',H',v,⟨_,q1⟩,q2,q3,q4⟩:=he
   cases q1
   simp only [VR] at q4
   subst q4
   have hb:=qbcy q2
   have hlt:∀ x∈p0 ++ (p1 ++ []),x.block < W.heap.size:=fun x hx=>by have:=hW'.lt x (by simpa using hx);exact this
   exact ⟨_,rfl,qqz (pa:=p0 ++ (p1 ++ [])) (pv:=[]) hW' (fun _ _ _=>trodAll_cons_mk (shut_bool Try.underlying4 _) trodAll_mk0) (fun sp hsp=>trodAll_cons_mk (qtd h0 (fun x hx=>hlt x (by simp [hx])) hb (fun x hx=>hsp x (by simp [hx]))) (trodAll_cons_mk (qxn h1 (fun x hx=>hlt x (by simp [hx])) hb (fun x hx=>hsp x (by simp [hx]))) trodAll_mk0)) (fun _ _=>rfl) (by simp) hb
    (ok_one (by kernel_rfl) rfl (okWide_bool_mk Try.underlying4 _))⟩

set_option maxRecDepth 100000 in
theorem qbdu (os:Os) (started:os.Started) (H:Type) (enc':TypeId×Value->H) (F:Stop.Interp) :
 ReturnsInHanded {} Try.checked os 6 .any ((Rows.OpenSpec.upto Rows.termsTextsSpec).pre6 enc' Try.prog Try.f6 Rows.termsTextsUptoRow.domain false) (((Rows.OpenSpec.upto Rows.termsTextsSpec).at F).post enc' Try.prog Try.f6 false true false false):=by
 refine returnsInHanded_of_cond (C:=Try.checked) (s:=Rows.OpenSpec.upto Rows.termsTextsSpec) (k:=Rows.uptoSmall) rfl own started (by kernel_rfl) Try.func6
  (OpenSpec.witness (enc:=enc') (C:=Try.checked) (s:=Rows.OpenSpec.upto Rows.termsTextsSpec) (k:=Rows.uptoSmall) rfl false ⟨#[],#[(.agg #[.string .empty,.int .i64 0,.slice none 0 0]),(.string .empty)],[]⟩ 12 (by kernel_rfl) (by kernel_rfl) (by kernel_rfl)
   (x:=([.agg [.lit (.string []),.lit (.int .i64 0),.nil],.lit (.string [])],[],[])) (by kernel_rfl) rfl (by kernel_rfl)) ?_
 intro W base args ds gs before hval hW _ hk _
 exact qpi H enc' W base args ds gs before hval hW hk

theorem over:Rows.TermsTextsUptoSaid :=
 OpenClaim.holds_of_cond 6 Try.f6 rfl rfl rfl rfl rfl rfl rfl ⟨rfl,rfl,rfl,rfl,rfl⟩ rfl rfl rfl rfl rfl (by kernel_rfl) Try.func6 (by kernel_rfl)
  (of_decide_eq_true (by kernel_rfl)) (by unfold Func.isWrapper;first | (rw [if_pos (by decide +kernel)];kernel_rfl) | (rw [if_neg (by decide +kernel)];exact ⟨rfl,rfl⟩))
  (fun os started H enc' _ F=>qbdu os started H enc' F)
end termsTextsLaw
theorem termsTexts_upto:Rows.TermsTextsUptoSaid:=termsTextsLaw.over

end Go.Proofs.Ytlahgbhhejkgbaa
