/- A text of this proof. -/
import Derived.Test.YtkenggenkmfopaaGreatNat
import Derived.Test.YtkenggenkmfopaaGreatNau
set_option linter.unusedVariables false
set_option linter.unusedSimpArgs false

/- terms: the program's texts -/
set_option maxRecDepth 4000
namespace Go.Proofs.YtkenggenkmfopaaGreat
open Go Go.RowKit Go.V

theorem qok {t:Ty}:qi Tryz.prog 105 [hdA t] (.str (qhx t)):=by
 refine qd c0cr (by simp) (by simp only [go_sem]) rfl fun hw=>?_
 have hv:(Lit.int .i64 t.var).wf = true:=hw.1.2.1
 by_cases hc0:t.con = []
 ·by_cases h0:0≤t.var
  ·repeat' (first | refine vs_ ?_ | ((first | refine vr_ ?_ | fail)<;>(try simp only [hc0,h0,go_sem,↓reduceIte])) | ((first | (refine cs_ ?_ ?_<;>intro hc) | refine cj_ ?_ | simp (disch:=omega) only [encs_getN,qb] | refine qa (qnz _) fun _=>?_)<;>(try refine ev_ ?_)) | with_reducible exact ti_)
   rw [qhx,if_pos hc0,if_pos h0]
  ·have hneg:=qbri hv (by omega)
   have hd:=qni (n:=-1 - t.var) (by have:=qke hv;simp [Lit.wf,IntKind.min,IntKind.max,IntKind.signed,IntKind.bits];omega)
   have hm:1 + (digI (-1 - t.var)).length≤maxLen:=by unfold maxLen;omega
   repeat' (first | refine vs_ ?_ | ((first | refine vr_ ?_ | fail)<;>(try simp only [hc0,h0,hneg,go_sem,↓reduceIte])) | ((first | (refine cs_ ?_ ?_<;>intro hc) | refine cj_ ?_ | simp (disch:=omega) only [encs_getN,qb] | refine qa (qeb _) fun _=>?_)<;>(try refine ev_ ?_)) | with_reducible exact ti_)
   rw [qhx,if_pos hc0,if_neg h0]
 ·repeat' (first | refine vs_ ?_ | ((first | refine vr_ ?_ | fail)<;>(try simp only [hc0,go_sem,↓reduceIte])) | ((first | (refine cs_ ?_ ?_<;>intro hc) | refine cj_ ?_ | simp (disch:=omega) only [encs_getN,qb])<;>(try refine ev_ ?_)) | with_reducible exact ti_)
  rw [qhx,if_neg hc0]
abbrev bldE (l:List UInt8):Ent:=.cus (bldR 202 5 l)
theorem qx9 {l s:List UInt8} (h:l.length + s.length≤Big):VM Tryz.prog 104 (bldE l) (bldE (l ++ s)) [.ptr 0 0,.str s] (.tup [.int .i64 s.length,.nili]) :=
 qbno (ρ:=Go.Proofs.Tryz.lays156_ren) Go.Proofs.Tryz.bld166 Go.Proofs.Tryz.Builder_Extra_156 h
theorem q2d {l:List UInt8} (h0:l≠[]) (h:l.length≤Big):VM Tryz.prog 106 (bldE l) .dead [.ptr 0 0] (.str l) :=
 q4s (ρ:=Go.Proofs.Tryz.lays156_ren) Go.Proofs.Tryz.bld169 Go.Proofs.Tryz.Builder_Extra_156 h0 h
theorem qfu {a:Ty} {b:Bool} (h:qi Tryz.prog 68 [encY a] (.str (txtY a))) (hl:(txtY a).length + 2≤Big):qi Tryz.prog 103 [encY a,.bool b] (.str (parW b (txtY a))):=by
 refine qd c0cs (by simp) (by simp only [go_sem]) rfl fun hw=>?_
 have h1:1 + (txtY a).length≤maxLen:=qj2 (by omega)
 have h2:(txtY a).length + 1 + 1≤maxLen:=qj2 (by omega)
 cases b
 ·repeat' (first | refine vs_ ?_ | ((first | refine vr_ ?_ | refine qa h fun _=>?_ | (refine cs_ ?_ ?_<;>intro hc) | refine cj_ ?_ | simp (disch:=omega) only [encs_getN,qb])<;>(try refine ev_ ?_)) | with_reducible exact ti_)
  rfl
 ·repeat' (first | refine vs_ ?_ | ((first | refine vr_ ?_ | refine qa h fun _=>?_ | (refine cs_ ?_ ?_<;>intro hc) | refine cj_ ?_ | simp (disch:=omega) only [encs_getN,qb])<;>(try refine ev_ ?_)) | with_reducible exact ti_)
  rfl
theorem qsv {t:Ty} (hv:(Lit.int .i64 t.var).wf = true):qhx t≠[]:=by
 rw [qhx]
 split
 ·split
  ·rw [ltrI,if_neg (by omega)];split<;>simp
  ·simp
 ·assumption
theorem qvw:∀ t,qb4 t = true->(txtY t).length≤Big->qi Tryz.prog 68 [encY t] (.str (txtY t)):=by
 refine Ty.ind fun t ih hs hl=>?_
 refine qd c0ct (by simp) (by simp only [go_sem]) rfl fun hw=>?_
 obtain ⟨hk,_,hv,_⟩:=(q1c t).1 hw.1
 by_cases hca:t.con = arrW
 ·obtain ⟨a,b,hab,sa,sb⟩:=q0t hs hca
  have e:=q63 hca hab
  have hlen:=congrArg List.length e
  simp only [List.length_append,List.length_cons,List.length_nil] at hlen
  have hp:=qs9 (decide (a.con = arrW)) (txtY a)
  have iha:=ih a (by rw [hab];simp) sa (by omega)
  have ihb:=ih b (by rw [hab];simp) sb (by omega)
  have ihc:=qfu (b:=decide (a.con = [45,62])) iha (by omega)
  have e0:(qj t.args).getD 0 .junk = encY a:=by rw [hab];rfl
  have e1:(qj t.args).getD 1 .junk = encY b:=by rw [hab];rfl
  have e2:t.args.length = 2:=by rw [hab];rfl
  have hca':t.con = [45,62]:=hca
  have m3:(parW (decide (a.con = [45,62])) (txtY a)).length + 4≤maxLen:=qj2 (by have:decide (a.con = arrW) = decide (a.con = [45,62]):=rfl;rw [this] at hlen;omega)
  have m4:(parW (decide (a.con = [45,62])) (txtY a)).length + 4 + (txtY b).length≤maxLen:=qj2 (by have:decide (a.con = arrW) = decide (a.con = [45,62]):=rfl;rw [this] at hlen;omega)
  repeat' (first | refine vs_ ?_ | ((first | refine vr_ ?_ | fail)<;>(try simp only [hca',e0,e1,e2,go_sem,↓reduceIte])) | ((first | simp (disch:=omega) only [e1] | (refine cs_ ?_ ?_<;>intro hc) | refine cj_ ?_ | simp (disch:=omega) only [encs_getN,qb] | refine qa ihc fun _=>?_ | refine qa ihb fun _=>?_ | refine qg ihc ?_ | refine qg ihb ?_)<;>(try refine ev_ ?_)) | with_reducible exact ti_)
  rw [e];rfl
 ·have e:=q2a hca
  have hca':¬ t.con = [45,62]:=hca
  have hlen:=congrArg List.length e
  rw [List.length_append] at hlen
  have hnp:0 < (qhx t).length:=List.length_pos_iff.2 (qsv hv)
  have ihA:∀ i,i < t.args.length->qi Tryz.prog 103 [encY (t.args.getD i Y0),.bool (decide ((t.args.getD i Y0).args≠[]))] (.str (parW (decide ((t.args.getD i Y0).args≠[])) (txtY (t.args.getD i Y0)))):=fun i hi=>by
   have hm:=qbx hi
   have h1:=qkm t.args i hi
   have h2:=congrArg List.length h1
   simp only [List.length_append,List.length_cons] at h2
   have h3:=qgp t.args (i + 1)
   have h4:=qs9 (decide ((t.args.getD i Y0).args≠[])) (txtY (t.args.getD i Y0))
   exact qfu (ih _ hm (qx4 hs hm) (by omega)) (by omega)
  have htk:∀ i,i < t.args.length->(qhx t ++ argY (t.args.take i)).length + (32 :: parW (decide ((t.args.getD i Y0).args≠[])) (txtY (t.args.getD i Y0))).length≤Big:=fun i hi=>by
   have h1:=qkm t.args i hi
   have h2:=congrArg List.length h1
   simp only [List.length_append,List.length_cons] at h2 ⊢
   have h3:=qgp t.args (i + 1)
   omega
  have w0:([]:List UInt8).length + (qhx t).length≤Big:=by simp;omega
  repeat' (first | refine vs_ ?_ | ((first | refine vr_ ?_ | fail)<;>(try simp only [hca',go_sem,↓reduceIte])) | ((first | (refine cs_ ?_ ?_<;>intro hc) | refine cj_ ?_ | simp (disch:=omega) only [encs_getN,qb] | refine qa (qnh _) fun _=>?_ | refine qa (qok (t:=t)) fun _=>?_ | refine qbl 1 (qx9 w0) ?_ | refine qg (qnh _) ?_ | refine qg (qok (t:=t)) ?_)<;>(try refine ev_ ?_)) | with_reducible exact ti_)
  refine qp (S:=Nat) (fun i=>i≤t.args.length) (fun i=>(⟨[(3,.ptr 1 0),(32,.sl 3 (qj t.args)),(33,.int .i64 t.args.length),(34,.int .i64 i)],[]⟩,[.blk (yc t),bldE (qhx t ++ argY (t.args.take i))])) (fun i=>t.args.length - i) ?_ fun i hi=>?_
  ·refine qm 0 [0,1] (Nat.zero_le _) rfl (by simp) ?_ ?_ ?_<;>simp only [List.take_zero,argY,List.append_nil]<;>(try refine ev_ ?_)<;>(try with_reducible exact ti_)<;>(try simp (disch:=omega) only [qb,and_true,true_and])
  ·by_cases hlt:i < t.args.length
   ·have hb:=htk i hlt
    have hle:decide (0 < ((t.args.getD i Y0).args.length:Int)) = decide ((t.args.getD i Y0).args≠[]):=by
     refine decide_eq_decide.2 ⟨fun h hn=>by rw [hn] at h;simp at h,fun h=>?_⟩
     have:=List.length_pos_iff.2 h
     omega
    have m1:1 + (parW (decide ((t.args.getD i Y0).args≠[])) (txtY (t.args.getD i Y0))).length≤maxLen:=qj2 (by simp only [List.length_append,List.length_cons] at hb;omega)
    repeat' (first | refine vs_ ?_ | ((first | refine vr_ ?_ | fail)<;>(try simp (disch:=first | omega | (simp only [List.length_set,List.length_append,List.length_cons,List.length_nil];done) | (simp only [List.length_set,List.length_append,List.length_cons,List.length_nil];omega)) only [qv,qb,hle,go_sem,↓reduceIte])) | ((first | (refine cs_ ?_ ?_<;>intro hc) | refine cj_ ?_ | simp (disch:=omega) only [encs_getN,qb] | refine qa (ihA i hlt) fun _=>?_ | refine qbl 1 (qx9 hb) ?_ | refine qg (ihA i hlt) ?_)<;>(try refine ev_ ?_)) | with_reducible exact ti_)
    ·refine qm (i + 1) [0,1] ⟨by omega,by omega⟩ rfl (by simp) ?_ ?_ ?_<;>simp only [qkm _ _ hlt]<;>(try refine ev_ ?_)<;>(try with_reducible exact ti_)<;>(try simp (disch:=omega) only [qb,and_true,true_and])
    ·omega
   ·have hend:qhx t ++ argY (t.args.take i) = txtY t:=by rw [e,List.take_of_length_le (by omega)]
    have hne:txtY t≠[]:=by rw [e];exact fun h=>qsv hv (List.append_eq_nil_iff.1 h).1
    rw [hend]
    repeat' (first | refine vs_ ?_ | ((first | refine vr_ ?_ | refine qbl 1 (q2d hne hl) ?_ | (refine cs_ ?_ ?_<;>intro hc) | refine cj_ ?_ | simp (disch:=omega) only [encs_getN,qb])<;>(try refine ev_ ?_)) | with_reducible exact ti_)
    ·omega
def qug (t:Ty):List UInt8:=if qf t = true then txtY t else []
theorem qgd {t:Ty} (h:qf t = true):qb4 t = true:=by
 rw [qf,Bool.and_eq_true,Bool.and_eq_true] at h;exact h.2.2
theorem qlp {t:Ty} (h1:szY t≤20000) (h2:dpY t≤300) (hl:(qug t).length≤Big):qi Tryz.prog 38 [encY t] (.str (qug t)):=by
 refine qd c0cu (by simp) (by simp only [go_sem]) rfl fun hw=>?_
 have hL:=qc5 h1 h2
 cases h:qf t with
 | false =>
   have e:qug t = []:=by rw [qug,if_neg (by rw [h];simp)]
   rw [e]
   rw [h] at hL
   repeat' (first | refine vs_ ?_ | ((first | refine vr_ ?_ | refine qa hL fun _=>?_ | (refine cs_ ?_ ?_<;>intro hc) | refine cj_ ?_ | fail)<;>(try refine ev_ ?_)) | with_reducible exact ti_)
 | true =>
   have e:qug t = txtY t:=by rw [qug,if_pos h]
   rw [e] at hl ⊢
   rw [h] at hL
   repeat' (first | refine vs_ ?_ | ((first | refine vr_ ?_ | refine qa hL fun _=>?_ | refine qa (qvw t (qgd h) hl) fun _=>?_ | (refine cs_ ?_ ?_<;>intro hc) | refine cj_ ?_ | fail)<;>(try refine ev_ ?_)) | with_reducible exact ti_)
end Go.Proofs.YtkenggenkmfopaaGreat
