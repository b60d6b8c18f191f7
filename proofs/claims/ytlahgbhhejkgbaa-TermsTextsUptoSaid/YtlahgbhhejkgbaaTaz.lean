/- Texts of this proof, joined. -/
import Derived.Test.YtlahgbhhejkgbaaTay
import Derived.Shelf.Strings.Builder1
import Derived.Shelf.Strings.Builder2
import Derived.Shelf.Strings.OnBuilder
import Derived.Test.YtlahgbhhejkgbaaProg
set_option linter.unusedVariables false
set_option linter.unusedSimpArgs false

/- terms: texts -/
set_option maxRecDepth 4000
namespace Go.Proofs.Ytlahgbhhejkgbaa
open Go Go.RowKit Go.V

theorem qc9 {t a b:Ty} (h1:t.con = arrW) (h2:t.args = [a,b]):txtY t = parW (decide (a.con = arrW)) (txtY a) ++ ([32,45,62,32] ++ txtY b):=by
 cases t with
 | mk c v l =>
   have h1':c = arrW:=h1
   have h2':l = [a,b]:=h2
   subst h1' h2'
   rw [txtY,if_pos rfl]
theorem qc7 {t:Ty} (h1:¬ t.con = arrW):txtY t = qbn t ++ argY t.args:=by
 cases t with
 | mk c v l =>
   have h1':¬ c = arrW:=h1
   rcases l with _ | ⟨a,_ | ⟨b,_ | ⟨d,r⟩⟩⟩<;>(simp only [txtY,if_neg h1'];rfl)
theorem qdm (l:List Ty) (i:Nat) (h:i < l.length):argY (l.take (i + 1)) = argY (l.take i) ++ (32 :: parW (decide ((l.getD i Y0).args≠[])) (txtY (l.getD i Y0))):=by
 have h1:l.take (i + 1) = l.take i ++ [l.getD i Y0]:=by
  rw [List.take_add_one,List.getD_eq_getElem?_getD,List.getElem?_eq_getElem h];rfl
 rw [h1]
 generalize l.take i = a
 generalize l.getD i Y0 = x
 induction a with
 | nil=>simp [argY]
 | cons y a ih=>simp only [List.cons_append,argY,ih,List.append_assoc]
theorem qcp (l:List Ty) (i:Nat):(argY (l.take i)).length≤(argY l).length:=by
 induction l generalizing i with
 | nil=>simp
 | cons x r ih =>
   cases i with
   | zero=>simp [argY]
   | succ i=>rw [List.take_succ_cons,argY,argY,List.length_append,List.length_append];have:=ih i;omega
theorem qdo {t:Ty} (h:qu t = true) (h1:t.con = arrW):∃ a b,t.args = [a,b]∧qu a = true∧qu b = true:=by
 rw [qee,Bool.and_eq_true] at h
 obtain ⟨h2,h3⟩:=h
 rw [mayY,mayW,h1,if_neg (by decide),if_pos rfl,Bool.and_eq_true,decide_eq_true_eq,decide_eq_true_eq] at h3
 have hl:t.args.length = 2:=by omega
 obtain ⟨a,b,hab⟩:∃ a b,t.args = [a,b]:=by
  match hh:t.args,hl with
  | [a,b],_=>exact ⟨a,b,rfl⟩
 rw [hab] at h2
 simp only [qbx,Bool.and_eq_true] at h2
 exact ⟨a,b,hab,h2.1,h2.2.1⟩
theorem qrh {t:Ty} (h:qu t = true) (h1:t.con = []):t.args = []:=by
 rw [qee,Bool.and_eq_true] at h
 have h3:=h.2
 rw [mayY,mayW,h1,if_pos rfl,decide_eq_true_eq] at h3
 exact List.length_eq_zero_iff.1 (by omega)
theorem qea {t x:Ty} (h:qu t = true) (hx:x∈t.args):qu x = true:=by
 rw [qee,Bool.and_eq_true] at h
 have h2:=h.1
 generalize t.args = l at hx h2
 induction l with
 | nil=>cases hx
 | cons y r ih =>
   rw [qbx,Bool.and_eq_true] at h2
   rcases List.mem_cons.1 hx with rfl | hx
   ·exact h2.1
   ·exact ih hx h2.2
theorem qev (b:Bool) (s:List UInt8):s.length≤(parW b s).length∧(parW b s).length≤s.length + 2:=by
 rw [parW];split<;>simp<;>omega
def Big:Nat:=140737488355328
theorem qby {n:Nat} (h:n≤Big):n≤maxLen:=by unfold Big at h;unfold maxLen;omega

theorem qka {a:Ty} (h:qg Try.prog 55 [encY a] (.str (txtY a))) (hl:(txtY a).length + 2≤Big):qg Try.prog 79 [encY a] (.str (parW (decide (a.args≠[])) (txtY a))):=by
 refine qd c0bn (by simp) (by simp only [go_sem]) rfl fun hw=>?_
 have h1:1 + (txtY a).length≤maxLen:=qby (by omega)
 have h2:(txtY a).length + 1 + 1≤maxLen:=qby (by omega)
 repeat' (first | refine vs_ ?_ | ((first | refine vr_ ?_ | refine qa h fun _=>?_ | (refine cs_ ?_ ?_<;>intro hc) | refine cj_ ?_ | simp (disch:=omega) only [encs_getN,qb])<;>(try refine ev_ ?_)) | with_reducible exact ti_)
 ·have hne:a.args≠[]:=fun h=>by rw [h] at hc;simp at hc
  rw [parW,if_pos (by simp [hne])]
 ·have hne:a.args = []:=List.length_eq_zero_iff.1 (by omega)
  rw [parW,if_neg (by simp [hne])]
theorem qzs {v:Int} (h:(Lit.int .i64 v).wf = true) (h0:v < 0):IntKind.i64.wrap (-1 - v) = -1 - v:=by
 have:=qfq h
 exact qt (by omega) (by omega)
theorem qi7:∀ t,qu t = true->(txtY t).length≤Big->qg Try.prog 55 [encY t] (.str (txtY t)):=by
 refine Ty.ind fun t ih hs hl=>?_
 refine qd c0bo (by simp) (by simp only [go_sem]) rfl fun hw=>?_
 obtain ⟨hk,_,hv,_⟩:=(qie t).1 hw.1
 by_cases hc0:t.con = []
 ·have hn:¬ t.con = arrW:=by rw [hc0];decide
  have ha:=qrh hs hc0
  rw [qc7 hn,ha] at hl ⊢
  by_cases h0:0≤t.var
  ·repeat' (first | refine vs_ ?_ | ((first | refine vr_ ?_ | fail)<;>(try simp only [hc0,h0,go_sem,↓reduceIte])) | ((first | (refine cs_ ?_ ?_<;>intro hc) | refine cj_ ?_ | simp (disch:=omega) only [encs_getN,qb] | refine qa (qgm _) fun _=>?_)<;>(try refine ev_ ?_)) | with_reducible exact ti_)
   rw [qbn,if_pos hc0,if_pos h0,argY,List.append_nil]
  ·have hneg:=qzs hv (by omega)
   have hd:=qof (n:=-1 - t.var) (by have:=qfq hv;simp [Lit.wf,IntKind.min,IntKind.max,IntKind.signed,IntKind.bits];omega)
   have hm:1 + (digI (-1 - t.var)).length≤maxLen:=by unfold maxLen;omega
   repeat' (first | refine vs_ ?_ | ((first | refine vr_ ?_ | fail)<;>(try simp only [hc0,h0,hneg,go_sem,↓reduceIte])) | ((first | (refine cs_ ?_ ?_<;>intro hc) | refine cj_ ?_ | simp (disch:=omega) only [encs_getN,qb] | refine qa (qey _) fun _=>?_)<;>(try refine ev_ ?_)) | with_reducible exact ti_)
   rw [qbn,if_pos hc0,if_neg h0,argY,List.append_nil]
 ·by_cases hca:t.con = arrW
  ·obtain ⟨a,b,hab,sa,sb⟩:=qdo hs hca
   have e:=qc9 hca hab
   have hlen:=congrArg List.length e
   simp only [List.length_append,List.length_cons,List.length_nil] at hlen
   have hp:=qev (decide (a.con = arrW)) (txtY a)
   have iha:=ih a (by rw [hab];simp) sa (by omega)
   have ihb:=ih b (by rw [hab];simp) sb (by omega)
   have e0:(qk t.args).getD 0 .junk = encY a:=by rw [hab];rfl
   have e1:(qk t.args).getD 1 .junk = encY b:=by rw [hab];rfl
   have e2:t.args.length = 2:=by rw [hab];rfl
   have hca':t.con = [45,62]:=hca
   have hc1:¬ ([45,62]:List UInt8) = []:=by decide
   by_cases haa:a.con = [45,62]
   ·rw [decide_eq_true (show a.con = arrW from haa),parW,if_pos rfl] at e hlen
    simp only [List.length_append,List.length_cons,List.length_nil] at hlen
    have m1:1 + (txtY a).length≤maxLen:=qby (by omega)
    have m2:(txtY a).length + 1 + 1≤maxLen:=qby (by omega)
    have m3:(txtY a).length + 1 + 1 + 4≤maxLen:=qby (by omega)
    have m4:(txtY a).length + 1 + 1 + 4 + (txtY b).length≤maxLen:=qby (by omega)
    repeat' (first | refine vs_ ?_ | ((first | refine vr_ ?_ | fail)<;>(try simp only [hca',hc1,e0,e1,e2,haa,go_sem,↓reduceIte])) | ((first | (refine cs_ ?_ ?_<;>intro hc) | refine cj_ ?_ | simp (disch:=omega) only [encs_getN,qb] | refine qa iha fun _=>?_ | refine qa ihb fun _=>?_)<;>(try refine ev_ ?_)) | with_reducible exact ti_)
    rw [e];simp
   ·rw [decide_eq_false (show ¬ a.con = arrW from haa),parW,if_neg (by simp)] at e hlen
    have m3:(txtY a).length + 4≤maxLen:=qby (by omega)
    have m4:(txtY a).length + 4 + (txtY b).length≤maxLen:=qby (by omega)
    repeat' (first | refine vs_ ?_ | ((first | refine vr_ ?_ | fail)<;>(try simp only [hca',hc1,e0,e1,e2,haa,go_sem,↓reduceIte])) | ((first | (refine cs_ ?_ ?_<;>intro hc) | refine cj_ ?_ | simp (disch:=omega) only [encs_getN,qb] | refine qa iha fun _=>?_ | refine qa ihb fun _=>?_)<;>(try refine ev_ ?_)) | with_reducible exact ti_)
    rw [e];simp
  ·have e:=qc7 hca
   have hn:qbn t = t.con:=by rw [qbn,if_neg hc0]
   have hca':¬ t.con = [45,62]:=hca
   have hlen:=congrArg List.length e
   rw [List.length_append,hn] at hlen
   have ihA:∀ i,i < t.args.length->qg Try.prog 79 [encY (t.args.getD i Y0)] (.str (parW (decide ((t.args.getD i Y0).args≠[])) (txtY (t.args.getD i Y0)))):=fun i hi=>by
    have hm:=qbw hi
    have h1:=qdm t.args i hi
    have h2:=congrArg List.length h1
    simp only [List.length_append,List.length_cons] at h2
    have h3:=qcp t.args (i + 1)
    have h4:=qev (decide ((t.args.getD i Y0).args≠[])) (txtY (t.args.getD i Y0))
    have h5:1≤t.con.length:=by cases hh:t.con with | nil=>exact absurd hh hc0 | cons _ _=>simp
    exact qka (ih _ hm (qea hs hm) (by omega)) (by omega)
   have htk:∀ i,i < t.args.length->t.con.length + (argY (t.args.take i)).length + ((parW (decide ((t.args.getD i Y0).args≠[])) (txtY (t.args.getD i Y0))).length + 1)≤Big:=fun i hi=>by
    have h1:=qdm t.args i hi
    have h2:=congrArg List.length h1
    simp only [List.length_append,List.length_cons] at h2
    have h3:=qcp t.args (i + 1)
    omega
   repeat' (first | refine vs_ ?_ | ((first | refine vr_ ?_ | fail)<;>(try simp only [hc0,hca',go_sem,↓reduceIte])) | ((first | (refine cs_ ?_ ?_<;>intro hc) | refine cj_ ?_ | simp (disch:=omega) only [encs_getN,qb])<;>(try refine ev_ ?_)) | with_reducible exact ti_)
   refine qw (S:=Nat) (fun i=>i≤t.args.length) (fun i=>(⟨[(1,.ptr 0 0),(4,.str (t.con ++ argY (t.args.take i))),(5,.int .i64 i)],[]⟩,[.blk (yc t)])) (fun i=>t.args.length - i) ?_ fun i hi=>?_
   ·refine qm 0 [0] (Nat.zero_le _) rfl (by simp) ?_ ?_ ?_<;>simp only [List.take_zero,argY,List.append_nil]<;>(try refine ev_ ?_)<;>(try with_reducible exact ti_)<;>(try simp (disch:=omega) only [qb,and_true,true_and])
   ·by_cases hlt:i < t.args.length
    ·have hb:=htk i hlt
     have m1:1 + (parW (decide ((t.args.getD i Y0).args≠[])) (txtY (t.args.getD i Y0))).length≤maxLen:=qby (by omega)
     have m2:t.con.length + (argY (t.args.take i)).length + ((parW (decide ((t.args.getD i Y0).args≠[])) (txtY (t.args.getD i Y0))).length + 1)≤maxLen:=qby hb
     repeat' (first | refine vs_ ?_ | ((first | refine vr_ ?_ | fail)<;>(try simp (disch:=first | omega | (simp only [List.length_set,List.length_append,List.length_cons,List.length_nil];done) | (simp only [List.length_set,List.length_append,List.length_cons,List.length_nil];omega)) only [qq,qb,go_sem,↓reduceIte])) | ((first | (refine cs_ ?_ ?_<;>intro hc) | refine cj_ ?_ | simp (disch:=omega) only [encs_getN,qb] | refine qa (ihA i hlt) fun _=>?_)<;>(try refine ev_ ?_)) | with_reducible exact ti_)
     ·refine qm (i + 1) [0] ⟨by omega,by omega⟩ rfl (by simp) ?_ ?_ ?_<;>simp only [qdm _ _ hlt]<;>(try refine ev_ ?_)<;>(try with_reducible exact ti_)<;>(try simp (disch:=omega) only [qb,and_true,true_and])
     ·omega
    ·repeat' (first | refine vs_ ?_ | ((first | refine vr_ ?_ | (refine cs_ ?_ ?_<;>intro hc) | refine cj_ ?_ | simp (disch:=omega) only [encs_getN,qb])<;>(try refine ev_ ?_)) | with_reducible exact ti_)
     ·omega
     ·rw [e,hn,List.take_of_length_le (by omega)]
end Go.Proofs.Ytlahgbhhejkgbaa
/- strings.Builder: the shelf's facts over this program. -/
namespace Go.Proofs
open Go.Shelf
def Try.lays156_ren:Go.Shelf.Ren:=⟨fun | 166=>81 | 169=>83 | 240=>105 | 276=>121 | n=>n,fun | 0=>0 | 3=>3 | 4=>4 | 9=>9 | 20=>20 | 37=>89 | 70=>88 | 72=>91 | 75=>93 | 76=>94 | 164=>138 | 5=>5 | 127=>124 | 80=>96 | n=>n,fun | n=>n⟩
theorem Try.bld166:Go.Proofs.Lays.n166 Try.prog Try.lays156_ren:={
 mixed:=by kernel_rfl
 f166:=Try.func81.trans (congrArg some (by kernel_rfl))
 f240:=Try.func105.trans (congrArg some (by kernel_rfl))
 f276:=Try.func121.trans (congrArg some (by kernel_rfl))
 t0:=Try.underlying0
 a0:=Try.isAgg0
 z0:=Try.sizeOf0
 v0:=Try.zeroValue0
 t3:=Try.underlying3
 a3:=Try.isAgg3
 z3:=Try.sizeOf3
 v3:=Try.zeroValue3
 t4:=Try.underlying4
 a4:=Try.isAgg4
 z4:=Try.sizeOf4
 v4:=Try.zeroValue4
 t9:=Try.underlying9
 a9:=Try.isAgg9
 z9:=Try.sizeOf9
 v9:=Try.zeroValue9
 t20:=Try.underlying20
 a20:=Try.isAgg20
 z20:=Try.sizeOf20
 v20:=Try.zeroValue20
 t37:=Try.underlying89
 a37:=Try.isAgg89
 z37:=Try.sizeOf89
 v37:=Try.zeroValue89
 t70:=Try.underlying88
 a70:=Try.isAgg88
 z70:=Try.sizeOf88
 v70:=Try.zeroValue88
 t72:=Try.underlying91
 a72:=Try.isAgg91
 z72:=Try.sizeOf91
 v72:=Try.zeroValue91
 t75:=Try.underlying93
 a75:=Try.isAgg93
 z75:=Try.sizeOf93
 v75:=Try.zeroValue93
 t164:=Try.underlying138
 a164:=Try.isAgg138
 z164:=Try.sizeOf138
 v164:=Try.zeroValue138 }
theorem Try.bld169:Go.Proofs.Lays.n169 Try.prog Try.lays156_ren:={
 mixed:=by kernel_rfl
 f169:=Try.func83.trans (congrArg some (by kernel_rfl))
 t0:=Try.underlying0
 a0:=Try.isAgg0
 z0:=Try.sizeOf0
 v0:=Try.zeroValue0
 t3:=Try.underlying3
 a3:=Try.isAgg3
 z3:=Try.sizeOf3
 v3:=Try.zeroValue3
 t9:=Try.underlying9
 a9:=Try.isAgg9
 z9:=Try.sizeOf9
 v9:=Try.zeroValue9
 t37:=Try.underlying89
 a37:=Try.isAgg89
 z37:=Try.sizeOf89
 v37:=Try.zeroValue89
 t70:=Try.underlying88
 a70:=Try.isAgg88
 z70:=Try.sizeOf88
 v70:=Try.zeroValue88
 t72:=Try.underlying91
 a72:=Try.isAgg91
 z72:=Try.sizeOf91
 v72:=Try.zeroValue91
 t127:=Try.underlying124
 a127:=Try.isAgg124
 z127:=Try.sizeOf124
 v127:=Try.zeroValue124 }
theorem Try.Builder_Extra_156:Builder.Extra Try.prog Try.lays156_ren:={
 sizeBuilder:=by kernel_rfl
 liesBuilder:=by kernel_rfl
 t5:=Try.underlying5
 a5:=Try.isAgg5
 z5:=Try.sizeOf5
 v5:=Try.zeroValue5
 infoByte:=by kernel_rfl
 cellsByte:=by kernel_rfl
 sizeByte:=by kernel_rfl
 neB5:=by decide }
end Go.Proofs
