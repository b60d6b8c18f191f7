/- A text of this proof. -/
import Derived.Test.YtlahgbhhejkgbaaKaz
set_option linter.unusedVariables false
set_option linter.unusedSimpArgs false

/- terms: the program's texts -/
set_option maxRecDepth 4000
namespace Go.Proofs.Ytlahgbhhejkgbaa
open Go Go.RowKit Go.V

theorem ql9 {t:Ty}:ql Try.prog 82 [hdA t] (.str (qbo t)):=by
 refine qg c0bb (by simp) (by simp only [go_sem]) rfl fun hw=>?_
 have hv:(Lit.int .i64 t.var).wf = true:=hw.1.2.1
 by_cases hc0:t.con = []
 ·by_cases h0:0≤t.var
  ·repeat' (first | refine vs_ ?_ | ((first | refine vr_ ?_ | fail)<;>(try simp only [hc0,h0,go_sem,↓reduceIte])) | ((first | (refine cs_ ?_ ?_<;>intro hc) | refine cj_ ?_ | simp (disch:=omega) only [encs_getN,qd] | refine qa (qgh _) fun _=>?_)<;>(try refine ev_ ?_)) | with_reducible exact ti_)
   rw [qbo,if_pos hc0,if_pos h0]
  ·have hneg:=qbdo hv (by omega)
   have hd:=qxi (n:=-1 - t.var) (by have:=qgz hv;simp [Lit.wf,IntKind.min,IntKind.max,IntKind.signed,IntKind.bits];omega)
   have hm:1 + (digI (-1 - t.var)).length≤maxLen:=by unfold maxLen;omega
   repeat' (first | refine vs_ ?_ | ((first | refine vr_ ?_ | fail)<;>(try simp only [hc0,h0,hneg,go_sem,↓reduceIte])) | ((first | (refine cs_ ?_ ?_<;>intro hc) | refine cj_ ?_ | simp (disch:=omega) only [encs_getN,qd] | refine qa (qff _) fun _=>?_)<;>(try refine ev_ ?_)) | with_reducible exact ti_)
   rw [qbo,if_pos hc0,if_neg h0]
 ·repeat' (first | refine vs_ ?_ | ((first | refine vr_ ?_ | fail)<;>(try simp only [hc0,go_sem,↓reduceIte])) | ((first | (refine cs_ ?_ ?_<;>intro hc) | refine cj_ ?_ | simp (disch:=omega) only [encs_getN,qd])<;>(try refine ev_ ?_)) | with_reducible exact ti_)
  rw [qbo,if_neg hc0]
abbrev bldE (l:List UInt8):Ent:=.cus (bldR 91 5 l)
theorem qss {l s:List UInt8} (h:l.length + s.length≤Big):VM Try.prog 81 (bldE l) (bldE (l ++ s)) [.ptr 0 0,.str s] (.tup [.int .i64 s.length,.nili]) :=
 qz1 (ρ:=Go.Proofs.Try.lays156_ren) Go.Proofs.Try.bld166 Go.Proofs.Try.Builder_Extra_156 h
theorem quw {l:List UInt8} (h0:l≠[]) (h:l.length≤Big):VM Try.prog 83 (bldE l) .dead [.ptr 0 0] (.str l) :=
 qvp (ρ:=Go.Proofs.Try.lays156_ren) Go.Proofs.Try.bld169 Go.Proofs.Try.Builder_Extra_156 h0 h
theorem qeg {a:Ty} {b:Bool} (h:ql Try.prog 56 [encY a] (.str (txtY a))) (hl:(txtY a).length + 2≤Big):ql Try.prog 80 [encY a,.bool b] (.str (parW b (txtY a))):=by
 refine qg c0bc (by simp) (by simp only [go_sem]) rfl fun hw=>?_
 have h1:1 + (txtY a).length≤maxLen:=qhy (by omega)
 have h2:(txtY a).length + 1 + 1≤maxLen:=qhy (by omega)
 cases b
 ·repeat' (first | refine vs_ ?_ | ((first | refine vr_ ?_ | refine qa h fun _=>?_ | (refine cs_ ?_ ?_<;>intro hc) | refine cj_ ?_ | simp (disch:=omega) only [encs_getN,qd])<;>(try refine ev_ ?_)) | with_reducible exact ti_)
  rfl
 ·repeat' (first | refine vs_ ?_ | ((first | refine vr_ ?_ | refine qa h fun _=>?_ | (refine cs_ ?_ ?_<;>intro hc) | refine cj_ ?_ | simp (disch:=omega) only [encs_getN,qd])<;>(try refine ev_ ?_)) | with_reducible exact ti_)
  rfl
theorem qot {t:Ty} (hv:(Lit.int .i64 t.var).wf = true):qbo t≠[]:=by
 rw [qbo]
 split
 ·split
  ·rw [ltrI,if_neg (by omega)];split<;>simp
  ·simp
 ·assumption
theorem qjw:∀ t,qn t = true->(txtY t).length≤Big->ql Try.prog 56 [encY t] (.str (txtY t)):=by
 refine Ty.ind fun t ih hs hl=>?_
 refine qg c0bd (by simp) (by simp only [go_sem]) rfl fun hw=>?_
 obtain ⟨hk,_,hv,_⟩:=(qj2 t).1 hw.1
 by_cases hca:t.con = arrW
 ·obtain ⟨a,b,hab,sa,sb⟩:=qcj hs hca
  have e:=qdw hca hab
  have hlen:=congrArg List.length e
  simp only [List.length_append,List.length_cons,List.length_nil] at hlen
  have hp:=qgr (decide (a.con = arrW)) (txtY a)
  have iha:=ih a (by rw [hab];simp) sa (by omega)
  have ihb:=ih b (by rw [hab];simp) sb (by omega)
  have ihc:=qeg (b:=decide (a.con = [45,62])) iha (by omega)
  have e0:(qk t.args).getD 0 .junk = encY a:=by rw [hab];rfl
  have e1:(qk t.args).getD 1 .junk = encY b:=by rw [hab];rfl
  have e2:t.args.length = 2:=by rw [hab];rfl
  have hca':t.con = [45,62]:=hca
  have m3:(parW (decide (a.con = [45,62])) (txtY a)).length + 4≤maxLen:=qhy (by have:decide (a.con = arrW) = decide (a.con = [45,62]):=rfl;rw [this] at hlen;omega)
  have m4:(parW (decide (a.con = [45,62])) (txtY a)).length + 4 + (txtY b).length≤maxLen:=qhy (by have:decide (a.con = arrW) = decide (a.con = [45,62]):=rfl;rw [this] at hlen;omega)
  repeat' (first | refine vs_ ?_ | ((first | refine vr_ ?_ | fail)<;>(try simp only [hca',e0,e1,e2,go_sem,↓reduceIte])) | ((first | simp (disch:=omega) only [e1] | (refine cs_ ?_ ?_<;>intro hc) | refine cj_ ?_ | simp (disch:=omega) only [encs_getN,qd] | refine qa ihc fun _=>?_ | refine qa ihb fun _=>?_ | refine qc ihc ?_ | refine qc ihb ?_)<;>(try refine ev_ ?_)) | with_reducible exact ti_)
  rw [e];rfl
 ·have e:=qc6 hca
  have hca':¬ t.con = [45,62]:=hca
  have hlen:=congrArg List.length e
  rw [List.length_append] at hlen
  have hnp:0 < (qbo t).length:=List.length_pos_iff.2 (qot hv)
  have ihA:∀ i,i < t.args.length->ql Try.prog 80 [encY (t.args.getD i Y0),.bool (decide ((t.args.getD i Y0).args≠[]))] (.str (parW (decide ((t.args.getD i Y0).args≠[])) (txtY (t.args.getD i Y0)))):=fun i hi=>by
   have hm:=qc4 hi
   have h1:=qie t.args i hi
   have h2:=congrArg List.length h1
   simp only [List.length_append,List.length_cons] at h2
   have h3:=qfr t.args (i + 1)
   have h4:=qgr (decide ((t.args.getD i Y0).args≠[])) (txtY (t.args.getD i Y0))
   exact qeg (ih _ hm (qce hs hm) (by omega)) (by omega)
  have htk:∀ i,i < t.args.length->(qbo t ++ argY (t.args.take i)).length + (32 :: parW (decide ((t.args.getD i Y0).args≠[])) (txtY (t.args.getD i Y0))).length≤Big:=fun i hi=>by
   have h1:=qie t.args i hi
   have h2:=congrArg List.length h1
   simp only [List.length_append,List.length_cons] at h2 ⊢
   have h3:=qfr t.args (i + 1)
   omega
  have w0:([]:List UInt8).length + (qbo t).length≤Big:=by simp;omega
  repeat' (first | refine vs_ ?_ | ((first | refine vr_ ?_ | fail)<;>(try simp only [hca',go_sem,↓reduceIte])) | ((first | (refine cs_ ?_ ?_<;>intro hc) | refine cj_ ?_ | simp (disch:=omega) only [encs_getN,qd] | refine qa (qfo _) fun _=>?_ | refine qa (ql9 (t:=t)) fun _=>?_ | refine qbr 1 (qss w0) ?_ | refine qc (qfo _) ?_ | refine qc (ql9 (t:=t)) ?_)<;>(try refine ev_ ?_)) | with_reducible exact ti_)
  refine qbf (S:=Nat) (fun i=>i≤t.args.length) (fun i=>(⟨[(3,.ptr 1 0),(32,.sl 3 (qk t.args)),(33,.int .i64 t.args.length),(34,.int .i64 i)],[]⟩,[.blk (yc t),bldE (qbo t ++ argY (t.args.take i))])) (fun i=>t.args.length - i) ?_ fun i hi=>?_
  ·refine qx 0 [0,1] (Nat.zero_le _) rfl (by simp) ?_ ?_ ?_<;>simp only [List.take_zero,argY,List.append_nil]<;>(try refine ev_ ?_)<;>(try with_reducible exact ti_)<;>(try simp (disch:=omega) only [qd,and_true,true_and])
  ·by_cases hlt:i < t.args.length
   ·have hb:=htk i hlt
    have hle:decide (0 < ((t.args.getD i Y0).args.length:Int)) = decide ((t.args.getD i Y0).args≠[]):=by
     refine decide_eq_decide.2 ⟨fun h hn=>by rw [hn] at h;simp at h,fun h=>?_⟩
     have:=List.length_pos_iff.2 h
     omega
    have m1:1 + (parW (decide ((t.args.getD i Y0).args≠[])) (txtY (t.args.getD i Y0))).length≤maxLen:=qhy (by simp only [List.length_append,List.length_cons] at hb;omega)
    repeat' (first | refine vs_ ?_ | ((first | refine vr_ ?_ | fail)<;>(try simp (disch:=first | omega | (simp only [List.length_set,List.length_append,List.length_cons,List.length_nil];done) | (simp only [List.length_set,List.length_append,List.length_cons,List.length_nil];omega)) only [qbc,qd,hle,go_sem,↓reduceIte])) | ((first | (refine cs_ ?_ ?_<;>intro hc) | refine cj_ ?_ | simp (disch:=omega) only [encs_getN,qd] | refine qa (ihA i hlt) fun _=>?_ | refine qbr 1 (qss hb) ?_ | refine qc (ihA i hlt) ?_)<;>(try refine ev_ ?_)) | with_reducible exact ti_)
    ·refine qx (i + 1) [0,1] ⟨by omega,by omega⟩ rfl (by simp) ?_ ?_ ?_<;>simp only [qie _ _ hlt]<;>(try refine ev_ ?_)<;>(try with_reducible exact ti_)<;>(try simp (disch:=omega) only [qd,and_true,true_and])
    ·omega
   ·have hend:qbo t ++ argY (t.args.take i) = txtY t:=by rw [e,List.take_of_length_le (by omega)]
    have hne:txtY t≠[]:=by rw [e];exact fun h=>qot hv (List.append_eq_nil_iff.1 h).1
    rw [hend]
    repeat' (first | refine vs_ ?_ | ((first | refine vr_ ?_ | refine qbr 1 (quw hne hl) ?_ | (refine cs_ ?_ ?_<;>intro hc) | refine cj_ ?_ | simp (disch:=omega) only [encs_getN,qd])<;>(try refine ev_ ?_)) | with_reducible exact ti_)
    ·omega
def qbn (t:Ty):List UInt8:=if qbz t = true then txtY t else []
theorem qbi {t:Ty} (h:qbz t = true):qn t = true:=by
 rw [qbz,Bool.and_eq_true,Bool.and_eq_true] at h;exact h.2.2
theorem qf1 {t:Ty} (h1:szY t≤20000) (h2:dpY t≤300) (hl:(qbn t).length≤Big):ql Try.prog 31 [encY t] (.str (qbn t)):=by
 refine qg c0a (by simp) (by simp only [go_sem]) rfl fun hw=>?_
 have hL:=qc9 h1 h2
 cases h:qbz t with
 | false =>
   have e:qbn t = []:=by rw [qbn,if_neg (by rw [h];simp)]
   rw [e]
   rw [h] at hL
   repeat' (first | refine vs_ ?_ | ((first | refine vr_ ?_ | refine qa hL fun _=>?_ | (refine cs_ ?_ ?_<;>intro hc) | refine cj_ ?_ | fail)<;>(try refine ev_ ?_)) | with_reducible exact ti_)
 | true =>
   have e:qbn t = txtY t:=by rw [qbn,if_pos h]
   rw [e] at hl ⊢
   rw [h] at hL
   repeat' (first | refine vs_ ?_ | ((first | refine vr_ ?_ | refine qa hL fun _=>?_ | refine qa (qjw t (qbi h) hl) fun _=>?_ | (refine cs_ ?_ ?_<;>intro hc) | refine cj_ ?_ | fail)<;>(try refine ev_ ?_)) | with_reducible exact ti_)
mutual
def conY:Ty->Nat
 | .mk c _ l=>c.length + qcs l
def qcs:List Ty->Nat
 | []=>0
 | x :: r=>conY x + qcs r
end
end Go.Proofs.Ytlahgbhhejkgbaa
