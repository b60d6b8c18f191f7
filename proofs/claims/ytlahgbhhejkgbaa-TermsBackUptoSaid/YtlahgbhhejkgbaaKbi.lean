/- Texts of this proof, joined. -/
import Derived.Test.YtlahgbhhejkgbaaKbh
import Derived.Test.YtlahgbhhejkgbaaKbe
import Derived.JoinedCond
set_option linter.unusedVariables false
set_option linter.unusedSimpArgs false

/- terms: the laws of texts -/
set_option maxRecDepth 4000
namespace Go.Proofs.Ytlahgbhhejkgbaa
open Go Go.RowKit Go.V

theorem q04 (t:Ty):ql Try.prog 23 [encY t,encY t] (.bool true):=qgp (qji t t) (by rw [qsy])
set_option maxHeartbeats 2000000 in
theorem qw8 (t u:Ty) (s:List UInt8) (hl:(qbn t).length≤29000000) (hl2:(qbn u).length≤Big):ql Try.prog 7 [encY t,encY u,.str s] (.bool true):=by
 refine qg c0br (by simp) (by simp only [AV.bds,AV.bd,qck,Bool.and_true]) rfl fun hw=>?_
 have h10:decide ((1:Int) = 0) = false:=rfl
 have hBig:(29000000:Nat)≤Big:=by unfold Big;omega
 by_cases hf:qfe [t,u] = true
 case neg =>
  have hf:qfe [t,u] = false:=by simpa using hf
  repeat' (first | refine vs_ ?_ | ((first | refine vr_ ?_ | refine qa (qyy hf) fun _=>?_ | refine qa qbs fun _=>?_ | refine qc (qyy hf) ?_ | refine qc qbs ?_ | (refine cs_ ?_ ?_<;>intro hc) | refine cj_ ?_ | simp (disch:=omega) only [encs_getN,qd])<;>(try refine ev_ ?_)) | with_reducible exact ti_)
  all_goals try (exfalso;first | omega | (revert hc;simp;done))
 obtain ⟨h1,h2⟩:=qre (l:=[t,u]) (by simp [maxLen]) hf (x:=t) (by simp)
 obtain ⟨g1,g2⟩:=qre (l:=[t,u]) (by simp [maxLen]) hf (x:=u) (by simp)
 by_cases hs:3000 < (s.length:Int)
 ·repeat' (first | refine vs_ ?_ | ((first | refine vr_ ?_ | fail)<;>(try simp only [h10,hs,decide_true,go_sem,↓reduceIte])) | ((first | (refine cs_ ?_ ?_<;>intro hc) | refine cj_ ?_ | simp (disch:=omega) only [encs_getN,qd] | refine qa (qec hf) fun _=>?_ | refine qa qbs fun _=>?_ | refine qc (qec hf) ?_ | refine qc qbs ?_)<;>(try refine ev_ ?_)) | with_reducible exact ti_)
  all_goals try (exfalso;first | omega | (revert hc;simp;done))
 have hLt:=qet h1
 have hLu:=qet g1
 cases ht:qbz t with
 | false =>
   rw [ht] at hLt
   repeat' (first | refine vs_ ?_ | ((first | refine vr_ ?_ | fail)<;>(try simp only [h10,hs,decide_false,go_sem,↓reduceIte])) | ((first | (refine cs_ ?_ ?_<;>intro hc) | refine cj_ ?_ | simp (disch:=omega) only [encs_getN,qd] | refine qa (qec hf) fun _=>?_ | refine qa hLt fun _=>?_ | refine qa qbs fun _=>?_ | refine qc (qec hf) ?_ | refine qc hLt ?_ | refine qc qbs ?_)<;>(try refine ev_ ?_)) | with_reducible exact ti_)
   all_goals try (exfalso;first | omega | (revert hc;simp;done))
 | true =>
 rw [ht] at hLt
 cases hu:qbz u with
 | false =>
   rw [hu] at hLu
   repeat' (first | refine vs_ ?_ | ((first | refine vr_ ?_ | fail)<;>(try simp only [h10,hs,decide_false,go_sem,↓reduceIte])) | ((first | (refine cs_ ?_ ?_<;>intro hc) | refine cj_ ?_ | simp (disch:=omega) only [encs_getN,qd] | refine qa (qec hf) fun _=>?_ | refine qa hLt fun _=>?_ | refine qa hLu fun _=>?_ | refine qa qbs fun _=>?_ | refine qc (qec hf) ?_ | refine qc hLt ?_ | refine qc hLu ?_ | refine qc qbs ?_)<;>(try refine ev_ ?_)) | with_reducible exact ti_)
   all_goals try (exfalso;first | omega | (revert hc;simp;done))
 | true =>
 rw [hu] at hLu
 have hV:=qi5 t (by omega)
 have hvl:(qdi [] (varY t)).length≤20000:=by
  have q1:=qsn (varY t) []
  have q2:=qo4 t
  simp only [List.length_nil] at q1
  omega
 have hmem:∀ v∈varY t,v∈qdi [] (varY t):=fun v hv=>(qq2 _ _ _).2 (.inr hv)
 generalize qdi [] (varY t) = L at hV hvl hmem
 repeat' (first | refine vs_ ?_ | ((first | refine vr_ ?_ | fail)<;>(try simp only [h10,hs,decide_false,go_sem,↓reduceIte])) | ((first | (refine cs_ ?_ ?_<;>intro hc) | refine cj_ ?_ | simp (disch:=omega) only [encs_getN,qd] | refine qa (qec hf) fun _=>?_ | refine qa hLt fun _=>?_ | refine qa hLu fun _=>?_ | refine qa hV fun _=>?_ | refine qc (qec hf) ?_ | refine qc hLt ?_ | refine qc hLu ?_ | refine qc hV ?_)<;>(try refine ev_ ?_)) | with_reducible exact ti_)
 all_goals try (exfalso;first | omega | (revert hc;simp;done))
 refine qbf (S:=Nat) (fun i=>i≤L.length∧∀ j,j < i->L.getD j 0≤4611686018427387904) (fun i=>(⟨[(2,.str s),(3,.ptr 0 0),(4,.ptr 1 0),(7,.sl 1 (ints L)),(8,.int .i64 i)],[]⟩,[.blk (yc t),.blk (yc u)])) (fun i=>L.length - i) ?_ fun i hi=>?_
 ·refine qx 0 [0,1] ⟨Nat.zero_le _,fun j hj=>by omega⟩ rfl (by simp) ?_ ?_ ?_<;>(try refine ev_ ?_)<;>(try with_reducible exact ti_)<;>(try simp (disch:=omega) only [qd,and_true,true_and])
 obtain ⟨hi,hall⟩:=hi
 by_cases hlt:i < L.length
 ·have hp:=qij hlt
  have hwi:IntKind.i64.wrap ((i:Int) + 1) = ((i + 1:Nat):Int):=by rw [qv (by omega) (by omega)];omega
  by_cases hbig:4611686018427387904 < L.getD i 0
  ·repeat' (first | refine vs_ ?_ | ((first | refine vr_ ?_ | fail)<;>(try simp only [hp,hwi,hbig,go_sem,↓reduceIte])) | ((first | simp (disch:=omega) only [hp] | (refine cs_ ?_ ?_<;>intro hc) | refine cj_ ?_ | simp (disch:=omega) only [encs_getN,qd] | refine qa qbs fun _=>?_ | refine qc qbs ?_)<;>(try refine ev_ ?_)) | with_reducible exact ti_)
   all_goals try (exfalso;omega)
  ·repeat' (first | refine vs_ ?_ | ((first | refine vr_ ?_ | fail)<;>(try simp only [hp,hwi,hbig,go_sem,↓reduceIte])) | ((first | simp (disch:=omega) only [hp] | (refine cs_ ?_ ?_<;>intro hc) | refine cj_ ?_ | simp (disch:=omega) only [encs_getN,qd])<;>(try refine ev_ ?_)) | with_reducible exact ti_)
   all_goals try (exfalso;omega)
   refine qx (i + 1) [0,1] ⟨⟨by omega,fun j hj=>?_⟩,by omega⟩ rfl (by simp) ?_ ?_ ?_<;>(try refine ev_ ?_)<;>(try with_reducible exact ti_)<;>(try simp (disch:=omega) only [qd,and_true,true_and])
   rcases Nat.lt_or_ge j i with h | h
   ·exact hall j h
   ·rw [show j = i by omega];omega
 ·have hie:i = L.length:=by omega
  subst hie
  have hv:vrY t:=q80 t hw.1
  have hmx:∀ v∈varY t,v≤4611686018427387904:=fun v hv=>by
   obtain ⟨j,hj⟩:=List.mem_iff_getElem?.1 (hmem v hv)
   have hjl:=(List.getElem?_eq_some_iff.1 hj).1
   have:=hall j hjl
   rwa [List.getD_eq_getElem?_getD,hj] at this
  have hback:=qsa ht hv hmx
  have hrd:(qbd (txtY t)).1 = t:=by rw [qlu ht];exact qoo t (qbi ht) hv hmx
  have htx:qbn t = txtY t:=by rw [qbn,if_pos ht]
  have hux:qbn u = txtY u:=by rw [qbn,if_pos hu]
  have hT:=qdu h1 (by omega:(qbn t).length≤Big)
  have hTu:=qdu g1 hl2
  have hRt:=qic (s:=txtY t) (by unfold ascS;rw [← htx];omega) (by rw [hrd];exact h1) (by rw [hrd];omega)
  rw [hback] at hRt
  rw [htx] at hT
  rw [hux] at hTu
  have hRs:=qmy (s:=s) (by unfold ascS;omega) (by omega)
  have hsame:=qgp (qji t u) (r':=.bool (decide (txtY t = txtY u))) (by
   have:qfq t u = decide (txtY t = txtY u):=by
    rw [Bool.eq_iff_iff,qj6,decide_eq_true_eq]
    exact ⟨fun e=>by rw [e],fun e=>qvk (qbi ht) (qbi hu) e⟩
   rw [this])
  have hme:=q04 t
  obtain ⟨b,f,hq⟩:∃ b f,qe0 s = (b,f):=⟨_,_,rfl⟩
  have hTb:f = 0->ql Try.prog 31 [encY b] (.str s):=fun h0=>by
   subst h0
   obtain ⟨z1,z2,z3⟩:=qrw s
   have hY:qe0 s = if (qbd s).2.bad = true then (Y0,5) else if (qbd s).2.s = [] then (if qbn (qbd s).1 = s then ((qbd s).1,0) else (Y0,5)) else (Y0,5):=rfl
   rw [hq] at hY
   have hb:b = (qbd s).1∧qbn (qbd s).1 = s:=by
    split at hY
    ·cases hY
    ·split at hY
     ·split at hY
      ·rename_i h;cases hY;exact ⟨rfl,h⟩
      ·cases hY
     ·cases hY
   have:=qdu (t:=(qbd s).1) (by omega) (by rw [hb.2];omega)
   rwa [hb.2,← hb.1] at this
  rw [hq] at hRs
  dsimp only at hRs hRt
  generalize txtY t = x at hT hRt hsame
  generalize txtY u = y at hTu hsame
  have hxy:decide (x = y) = true∨decide (x = y) = false:=by cases decide (x = y)<;>simp
  by_cases h0:f = 0
  ·have hTb2:=hTb h0
   clear hTb
   subst h0
   rcases hxy with hxy | hxy<;>rw [hxy] at hsame
   all_goals (repeat' (first | refine vs_ ?_ | ((first | refine vr_ ?_ | fail)<;>(try simp only [h10,hxy,decide_true,decide_false,go_sem,↓reduceIte])) | ((first | (refine cs_ ?_ ?_<;>intro hc) | refine cj_ ?_ | simp (disch:=omega) only [encs_getN,qd] | refine qa hT fun _=>?_ | refine qa hTu fun _=>?_ | refine qa hRt fun _=>?_ | refine qa hRs fun _=>?_ | refine qa hme fun _=>?_ | refine qa hTb2 fun _=>?_ | refine qa hsame fun _=>?_ | refine qa qbs fun _=>?_ | refine qc hT ?_ | refine qc hTu ?_ | refine qc hRt ?_ | refine qc hRs ?_ | refine qc hme ?_ | refine qc hTb2 ?_ | refine qc hsame ?_ | refine qc qbs ?_)<;>(try refine ev_ ?_)) | with_reducible exact ti_))
   all_goals try (exfalso;omega)
   all_goals (repeat' (first | refine vs_ ?_ | ((first | refine vr_ ?_ | fail)<;>(try simp only [h10,hxy,decide_true,decide_false,go_sem,↓reduceIte])) | ((first | (refine cs_ ?_ ?_<;>intro hc) | refine cj_ ?_ | simp (disch:=omega) only [encs_getN,qd] | refine qa hT fun _=>?_ | refine qa hTu fun _=>?_ | refine qa hRt fun _=>?_ | refine qa hRs fun _=>?_ | refine qa hme fun _=>?_ | refine qa hTb2 fun _=>?_ | refine qa hsame fun _=>?_ | refine qa qbs fun _=>?_ | refine qc hT ?_ | refine qc hTu ?_ | refine qc hRt ?_ | refine qc hRs ?_ | refine qc hme ?_ | refine qc hTb2 ?_ | refine qc hsame ?_ | refine qc qbs ?_)<;>(try refine ev_ ?_)) | with_reducible exact ti_))
   all_goals (exfalso;rw [hxy] at hc;exact absurd hc (by decide))
  ·rcases hxy with hxy | hxy<;>rw [hxy] at hsame
   all_goals (repeat' (first | refine vs_ ?_ | ((first | refine vr_ ?_ | fail)<;>(try simp only [h10,hxy,h0,decide_true,decide_false,go_sem,↓reduceIte])) | ((first | (refine cs_ ?_ ?_<;>intro hc) | refine cj_ ?_ | simp (disch:=omega) only [encs_getN,qd] | refine qa hT fun _=>?_ | refine qa hTu fun _=>?_ | refine qa hRt fun _=>?_ | refine qa hRs fun _=>?_ | refine qa hme fun _=>?_ | refine qa hsame fun _=>?_ | refine qa qbs fun _=>?_ | refine qc hT ?_ | refine qc hTu ?_ | refine qc hRt ?_ | refine qc hRs ?_ | refine qc hme ?_ | refine qc hsame ?_ | refine qc qbs ?_)<;>(try refine ev_ ?_)) | with_reducible exact ti_))
   all_goals try (exfalso;omega)
   all_goals (exfalso;rw [hxy] at hc;exact absurd hc (by decide))
end Go.Proofs.Ytlahgbhhejkgbaa

/- the statement: a term is read back; unlike terms have unlike texts -/
set_option maxRecDepth 100000
namespace Go.Proofs.Ytlahgbhhejkgbaa
open Go Go.RowKit Go.V Go.ChangeShapes Go.WideShapes Go.ChangeAt


namespace termsBackLaw
theorem qoy (H:Type) (enc':TypeId×Value->H) (W:World) (base:Nat) (args:Array Value) (ds gs:List (DataW H)) (before:List MemPlace)
 (hval:∀ (j:Nat) t v,Try.f7.params[j]? = some t->args[j]? = some v->Value.okWide Try.prog W .any base t v)
 (hW:DataW.Whole enc' Try.prog Try.f7.params.toList Rows.termsBackSpec.vars false W args.toList ds gs before) (hk:Rows.uptoSmall H (ds ++ gs) = true) :
 Calls Try.prog 7 args W fun e W'=>∃ v,e = .returned v∧Rows.termsBackSpec.post enc' Try.prog Try.f7 false true false false W args v W':=by
 have hW':=hW
 obtain ⟨p,q,hA0,hV,rfl,hfz,hnd⟩:=hW
 have hA:DataW.TrodAll enc' Try.prog W 0 (fun _=>true) true Try.f7.params.toList args.toList ds p:=hA0
 rw [Try.params7] at hA hval
 obtain ⟨v0,vs0,d0,ds0,p0,q0,hargs0,rfl,rfl,h0,r0⟩:=trodAll_cons hA
 obtain ⟨v1,vs1,d1,ds1,p1,q1,hargs1,rfl,rfl,h1,r1⟩:=trodAll_cons r0
 subst hargs1
 obtain ⟨v2,vs2,d2,ds2,p2,q2,hargs2,rfl,rfl,h2,r2⟩:=trodAll_cons r1
 subst hargs2
 obtain ⟨rfl,rfl,rfl⟩:=trodAll_nil r2
 obtain rfl:args = #[v0,v1,v2]:=by cases args;simp_all
 obtain ⟨rfl,rfl⟩:=trodVars_none hV
 obtain ⟨n0,hn0,hs0⟩:=qlw (hval 0 24 v0 rfl rfl) h0
 obtain ⟨n1,hn1,hs1⟩:=qlw (hval 1 24 v1 rfl rfl) h1
 obtain ⟨n2,hn2,hs2⟩:=qwp (hval 2 9 v2 rfl rfl) h2
 clear hA0
 simp only [List.append_nil] at hW' hk
 have hK:Rows.uptoBulkAll [d0,d1,d2]≤1048576:=of_decide_eq_true hk
 simp only [Rows.uptoBulkAll] at hK
 have hc:=(qw8 n0 n1 n2 (qpc (qbb9 hn0) (by omega)) (q4w (qpc (qbb9 hn1) (by omega)))).1.2 W (MM W) [] [v0,v1,v2] (stM W) ⟨v0,[v1,v2],rfl,hn0,⟨v1,[v2],rfl,hn1,⟨v2,[],rfl,hn2,rfl⟩⟩⟩
 refine (callsIn_wide.1 hc).mono fun e W' he=>?_
 cases e with
 | outgrown=>exact he.elim
 | panicked c=>obtain ⟨M',G',H',v,x,⟨_,q1⟩,_⟩:=he;cases q1
 | returned x =>
   obtain ⟨M',G',H',v,⟨_,q1⟩,q2,q3,q4⟩:=he
   cases q1
   simp only [VR] at q4
   subst q4
   have hb:=qbby q2
   have hlt:∀ x∈p0 ++ (p1 ++ (p2 ++ [])),x.block < W.heap.size:=fun x hx=>by have:=hW'.lt x (by simpa using hx);exact this
   exact ⟨_,rfl,qpp (pa:=p0 ++ (p1 ++ (p2 ++ []))) (pv:=[]) hW' (fun _ _ _=>trodAll_cons_mk (shut_bool Try.underlying4 _) trodAll_mk0) (fun sp hsp=>trodAll_cons_mk (qlb h0 (fun x hx=>hlt x (by simp [hx])) hb (fun x hx=>hsp x (by simp [hx]))) (trodAll_cons_mk (qlb h1 (fun x hx=>hlt x (by simp [hx])) hb (fun x hx=>hsp x (by simp [hx]))) (trodAll_cons_mk (qxs h2 (fun x hx=>hlt x (by simp [hx])) hb (fun x hx=>hsp x (by simp [hx]))) trodAll_mk0))) (fun _ _=>rfl) (by simp) hb
    (ok_one (by kernel_rfl) rfl (okWide_bool_mk Try.underlying4 _))⟩

set_option maxRecDepth 100000 in
theorem qbbz (os:Os) (started:os.Started) (H:Type) (enc':TypeId×Value->H) (F:Stop.Interp) :
 ReturnsInHanded {} Try.checked os 7 .any ((Rows.OpenSpec.upto Rows.termsBackSpec).pre6 enc' Try.prog Try.f7 Rows.termsBackUptoRow.domain false) (((Rows.OpenSpec.upto Rows.termsBackSpec).at F).post enc' Try.prog Try.f7 false true false false):=by
 refine returnsInHanded_of_cond (C:=Try.checked) (s:=Rows.OpenSpec.upto Rows.termsBackSpec) (k:=Rows.uptoSmall) rfl own started (by kernel_rfl) Try.func7
  (OpenSpec.witness (enc:=enc') (C:=Try.checked) (s:=Rows.OpenSpec.upto Rows.termsBackSpec) (k:=Rows.uptoSmall) rfl false ⟨#[],#[(.agg #[.string .empty,.int .i64 0,.slice none 0 0]),(.agg #[.string .empty,.int .i64 0,.slice none 0 0]),(.string .empty)],[]⟩ 12 (by kernel_rfl) (by kernel_rfl) (by kernel_rfl)
   (x:=([.agg [.lit (.string []),.lit (.int .i64 0),.nil],.agg [.lit (.string []),.lit (.int .i64 0),.nil],.lit (.string [])],[],[])) (by kernel_rfl) rfl (by kernel_rfl)) ?_
 intro W base args ds gs before hval hW _ hk _
 exact qoy H enc' W base args ds gs before hval hW hk

theorem over:Rows.TermsBackUptoSaid :=
 OpenClaim.holds_of_cond 7 Try.f7 rfl rfl rfl rfl rfl rfl rfl ⟨rfl,rfl,rfl,rfl,rfl⟩ rfl rfl rfl rfl rfl (by kernel_rfl) Try.func7 (by kernel_rfl)
  (of_decide_eq_true (by kernel_rfl)) (by unfold Func.isWrapper;first | (rw [if_pos (by decide +kernel)];kernel_rfl) | (rw [if_neg (by decide +kernel)];exact ⟨rfl,rfl⟩))
  (fun os started H enc' _ F=>qbbz os started H enc' F)
end termsBackLaw
theorem termsBack_upto:Rows.TermsBackUptoSaid:=termsBackLaw.over

end Go.Proofs.Ytlahgbhhejkgbaa
