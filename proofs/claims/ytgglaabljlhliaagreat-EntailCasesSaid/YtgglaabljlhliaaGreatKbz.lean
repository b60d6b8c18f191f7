/- A text of this proof. -/
import Derived.Test.YtgglaabljlhliaaGreatKbv
import Derived.Test.YtgglaabljlhliaaGreatKby
set_option linter.unusedVariables false
set_option linter.unusedSimpArgs false

/- chapter 25's statements: what is not too great; a type in a variable's place -/
set_option maxRecDepth 4000
namespace Go.Proofs.YtgglaabljlhliaaGreat
open Go Go.RowKit Go.V

def qo6 (l:List Cls):Bool:=decide (l.length≤9) && l.all fun c=>decide (c.sup.length≤9)
theorem qqt {l:List Cls} (h:qo6 l = true):fewC l:=by
 rw [qo6,Bool.and_eq_true,decide_eq_true_eq] at h
 exact ⟨h.1,fun c hc=>by simpa using List.all_eq_true.1 h.2 c hc⟩
theorem qb3w (l:List Cls):qg Tryz.prog 37 [.sl 3 (qcj l)] (.int .i64 (if qo6 l = true then 1 else 0)):=by
 refine qd c0dz (by simp) (by simp only [go_sem]) rfl fun hw=>?_
 have hl:=(qgc hw.1).1
 by_cases h9:9 < l.length
 ·have e:qo6 l = false:=by rw [qo6,decide_eq_false (by omega),Bool.false_and]
  have hI:(9:Int) < (l.length:Int):=by omega
  rw [e]
  repeat' (first | refine vs_ ?_ | ((first | refine vr_ ?_ | fail)<;>(try simp only [hI,decide_true,decide_false,go_sem,↓reduceIte])) | ((first | (refine cs_ ?_ ?_<;>intro hc) | refine cj_ ?_ | simp (disch:=omega) only [encs_getN,qb])<;>(try refine ev_ ?_)) | with_reducible exact ti_)
 ·have e:qo6 l = l.all fun c=>decide (c.sup.length≤9):=by rw [qo6,decide_eq_true (by omega),Bool.true_and]
  have hI:¬ (9:Int) < (l.length:Int):=by omega
  rw [e]
  repeat' (first | refine vs_ ?_ | ((first | refine vr_ ?_ | fail)<;>(try simp only [hI,decide_true,decide_false,go_sem,↓reduceIte])) | ((first | (refine cs_ ?_ ?_<;>intro hc) | refine cj_ ?_ | simp (disch:=omega) only [encs_getN,qb])<;>(try refine ev_ ?_)) | with_reducible exact ti_)
  refine qi (S:=Nat) (fun i=>i≤l.length∧(l.drop i).all (fun c=>decide (c.sup.length≤9)) = l.all fun c=>decide (c.sup.length≤9)) (fun i=>(⟨[(0,.sl 3 (qcj l)),(3,.int .i64 i)],[]⟩,[])) (fun i=>l.length - i) ?_ fun i hi=>?_
  ·refine qf 0 [] ⟨Nat.zero_le _,rfl⟩ rfl (by simp) ?_ ?_ ?_<;>(try refine ev_ ?_)<;>(try with_reducible exact ti_)<;>(try simp (disch:=omega) only [qb,and_true,true_and])
  ·obtain ⟨hi,ha⟩:=hi
   by_cases hlt:i < l.length
   ·have hg:=qdu hlt
    rw [q4b hlt,List.all_cons] at ha
    have hltI:(i:Int) < (l.length:Int):=by omega
    generalize l.getD i C0 = q at *
    by_cases hq:9 < q.sup.length
    ·have hqI:(9:Int) < (q.sup.length:Int):=by omega
     rw [decide_eq_false (show ¬ q.sup.length≤9 by omega),Bool.false_and] at ha
     repeat' (first | refine vs_ ?_ | ((first | refine vr_ ?_ | fail)<;>(try simp (disch:=first | omega | (simp only [List.length_set,List.length_append,List.length_cons,List.length_nil];done) | (simp only [List.length_set,List.length_append,List.length_cons,List.length_nil];omega)) only [hg,hltI,hqI,decide_true,decide_false,qb,List.length_map,go_sem,↓reduceIte])) | ((first | simp (disch:=omega) only [hg] | (refine cs_ ?_ ?_<;>intro hc) | refine cj_ ?_ | simp (disch:=omega) only [encs_getN,qb])<;>(try refine ev_ ?_)) | with_reducible exact ti_)
     all_goals rw [← ha]
     all_goals rfl
    ·have hqI:¬ (9:Int) < (q.sup.length:Int):=by omega
     rw [decide_eq_true (show q.sup.length≤9 by omega),Bool.true_and] at ha
     repeat' (first | refine vs_ ?_ | ((first | refine vr_ ?_ | fail)<;>(try simp (disch:=first | omega | (simp only [List.length_set,List.length_append,List.length_cons,List.length_nil];done) | (simp only [List.length_set,List.length_append,List.length_cons,List.length_nil];omega)) only [hg,hltI,hqI,decide_true,decide_false,qb,List.length_map,go_sem,↓reduceIte])) | ((first | simp (disch:=omega) only [hg] | (refine cs_ ?_ ?_<;>intro hc) | refine cj_ ?_ | simp (disch:=omega) only [encs_getN,qb])<;>(try refine ev_ ?_)) | with_reducible exact ti_)
     refine qf (i + 1) [] ⟨⟨by omega,ha⟩,by omega⟩ rfl (by simp) ?_ ?_ ?_<;>(try refine ev_ ?_)<;>(try with_reducible exact ti_)<;>(try simp (disch:=omega) only [qb,and_true,true_and])
   ·rw [List.drop_of_length_le (by omega),List.all_nil] at ha
    have hltI:¬ (i:Int) < (l.length:Int):=by omega
    repeat' (first | refine vs_ ?_ | ((first | refine vr_ ?_ | fail)<;>(try simp only [hltI,decide_false,go_sem,↓reduceIte])) | ((first | (refine cs_ ?_ ?_<;>intro hc) | refine cj_ ?_ | simp (disch:=omega) only [encs_getN,qb])<;>(try refine ev_ ?_)) | with_reducible exact ti_)
    all_goals rw [← ha]
    all_goals rfl
def fewE (e:Env):Bool:=qo6 e.cs && fewI e.is
theorem qbvu (e:Env):qg Tryz.prog 19 [encV e] (.int .i64 (if fewE e = true then 1 else 0)):=by
 refine qd c0ea (by simp) (by simp only [go_sem]) rfl fun hw=>?_
 have h22:=qb3w e.cs
 have h23:=qb43 e.is
 unfold fewE
 generalize qo6 e.cs = a at *
 generalize fewI e.is = b at *
 cases a<;>cases b
 all_goals (repeat' (first | refine vs_ ?_ | ((first | refine vr_ ?_ | refine qa h22 fun _=>?_ | refine qa h23 fun _=>?_ | (refine cs_ ?_ ?_<;>intro hc) | refine cj_ ?_ | fail)<;>(try refine ev_ ?_)) | with_reducible exact ti_))
 all_goals first | rfl | (exfalso;omega)
theorem q07 {e:Env} (h:fewE e = true):qg Tryz.prog 19 [encV e] (.int .i64 1):=qf9 (qbvu e) (by rw [h];rfl)
theorem q6a {e:Env} (h:fewE e = false):qg Tryz.prog 19 [encV e] (.int .i64 0):=qf9 (qbvu e) (by rw [h];rfl)
def shal (p:Pd):Bool:=!(decide (8 < dpY p.ty) && decide (20 < szY p.ty))
def qws (e:Env) (g l:List Pd):Bool:=fewE e && (fewP g && (fewP l && l.all shal))
theorem q4g (e:Env) (g l:List Pd):qg Tryz.prog 6 [encV e,.sl 4 (qp g),.sl 4 (qp l)] (.bool (qws e g l)):=by
 refine qd c0eb (by simp) (by simp only [go_sem]) rfl fun hw=>?_
 have hl:=(qc4 hw.2.2.1).1
 have h0:decide ((0:Int) = 0) = true:=rfl
 have h1:decide ((1:Int) = 0) = false:=rfl
 unfold qws
 cases he:fewE e with
 | false =>
   have h24:=q6a he
   repeat' (first | refine vs_ ?_ | ((first | refine vr_ ?_ | fail)<;>(try simp only [h0,h1,go_sem,↓reduceIte])) | ((first | (refine cs_ ?_ ?_<;>intro hc) | refine cj_ ?_ | simp (disch:=omega) only [encs_getN,qb] | refine qa h24 fun _=>?_)<;>(try refine ev_ ?_)) | with_reducible exact ti_)
   all_goals rfl
 | true =>
   have h24:=q07 he
   cases hg:fewP g with
   | false =>
     have hG:=qnx hg
     repeat' (first | refine vs_ ?_ | ((first | refine vr_ ?_ | fail)<;>(try simp only [h0,h1,go_sem,↓reduceIte])) | ((first | (refine cs_ ?_ ?_<;>intro hc) | refine cj_ ?_ | simp (disch:=omega) only [encs_getN,qb] | refine qa h24 fun _=>?_ | refine qa hG fun _=>?_)<;>(try refine ev_ ?_)) | with_reducible exact ti_)
     all_goals rfl
   | true =>
     have hG:=qhz hg
     cases hp:fewP l with
     | false =>
       have hL:=qnx hp
       repeat' (first | refine vs_ ?_ | ((first | refine vr_ ?_ | fail)<;>(try simp only [h0,h1,go_sem,↓reduceIte])) | ((first | (refine cs_ ?_ ?_<;>intro hc) | refine cj_ ?_ | simp (disch:=omega) only [encs_getN,qb] | refine qa h24 fun _=>?_ | refine qa hG fun _=>?_ | refine qa hL fun _=>?_)<;>(try refine ev_ ?_)) | with_reducible exact ti_)
       all_goals rfl
     | true =>
       have hL:=qhz hp
       obtain ⟨_,hsz⟩:=qj5 hl hp
       simp only [Bool.true_and]
       repeat' (first | refine vs_ ?_ | ((first | refine vr_ ?_ | fail)<;>(try simp only [h0,h1,go_sem,↓reduceIte])) | ((first | (refine cs_ ?_ ?_<;>intro hc) | refine cj_ ?_ | simp (disch:=omega) only [encs_getN,qb] | refine qa h24 fun _=>?_ | refine qa hG fun _=>?_ | refine qa hL fun _=>?_)<;>(try refine ev_ ?_)) | with_reducible exact ti_)
       all_goals try (exfalso;omega)
       refine qi (S:=Nat) (fun i=>i≤l.length∧(l.drop i).all shal = l.all shal) (fun i=>(⟨[(2,.sl 4 (qp l)),(7,.int .i64 i)],[]⟩,[])) (fun i=>l.length - i) ?_ fun i hi=>?_
       ·refine qf 0 [] ⟨Nat.zero_le _,rfl⟩ rfl (by simp) ?_ ?_ ?_<;>(try refine ev_ ?_)<;>(try with_reducible exact ti_)<;>(try simp (disch:=omega) only [qb,and_true,true_and])
       ·obtain ⟨hi,ha⟩:=hi
        by_cases hlt:i < l.length
        ·have hg:=qbt hlt
         have hd:=qg1 (l.getD i P0).ty
         have hz:=qf5 (l.getD i P0).ty
         obtain ⟨z1,z2⟩:=hsz _ (qgf hlt)
         rw [qh9 _ (by omega)] at hd
         rw [qeg _ (by omega)] at hz
         rw [V.dropP hlt,List.all_cons] at ha
         have hltI:(i:Int) < (l.length:Int):=by omega
         generalize l.getD i P0 = q at *
         by_cases q1:8 < dpY q.ty
         ·have q1I:(8:Int) < (dpY q.ty:Int):=by omega
          by_cases q2:20 < szY q.ty
          ·have q2I:(20:Int) < (szY q.ty:Int):=by omega
           rw [shal,decide_eq_true q1,decide_eq_true q2] at ha
           repeat' (first | refine vs_ ?_ | ((first | refine vr_ ?_ | fail)<;>(try simp (disch:=first | omega | (simp only [List.length_set,List.length_append,List.length_cons,List.length_nil];done) | (simp only [List.length_set,List.length_append,List.length_cons,List.length_nil];omega)) only [hg,hltI,q1I,q2I,decide_true,decide_false,qb,go_sem,↓reduceIte])) | ((first | simp (disch:=omega) only [hg] | (refine cs_ ?_ ?_<;>intro hc) | refine cj_ ?_ | simp (disch:=omega) only [encs_getN,qb] | refine qa hd fun _=>?_ | refine qa hz fun _=>?_)<;>(try refine ev_ ?_)) | with_reducible exact ti_)
           all_goals try (exfalso;omega)
           all_goals rw [← ha]
           all_goals rfl
          ·have q2I:¬ (20:Int) < (szY q.ty:Int):=by omega
           rw [shal,decide_eq_false q2,Bool.and_false,Bool.not_false,Bool.true_and] at ha
           repeat' (first | refine vs_ ?_ | ((first | refine vr_ ?_ | fail)<;>(try simp (disch:=first | omega | (simp only [List.length_set,List.length_append,List.length_cons,List.length_nil];done) | (simp only [List.length_set,List.length_append,List.length_cons,List.length_nil];omega)) only [hg,hltI,q1I,q2I,decide_true,decide_false,qb,go_sem,↓reduceIte])) | ((first | simp (disch:=omega) only [hg] | (refine cs_ ?_ ?_<;>intro hc) | refine cj_ ?_ | simp (disch:=omega) only [encs_getN,qb] | refine qa hd fun _=>?_ | refine qa hz fun _=>?_)<;>(try refine ev_ ?_)) | with_reducible exact ti_)
           all_goals try (exfalso;omega)
           refine qf (i + 1) [] ⟨⟨by omega,ha⟩,by omega⟩ rfl (by simp) ?_ ?_ ?_<;>(try refine ev_ ?_)<;>(try with_reducible exact ti_)<;>(try simp (disch:=omega) only [qb,and_true,true_and])
         ·have q1I:¬ (8:Int) < (dpY q.ty:Int):=by omega
          rw [shal,decide_eq_false q1,Bool.false_and,Bool.not_false,Bool.true_and] at ha
          repeat' (first | refine vs_ ?_ | ((first | refine vr_ ?_ | fail)<;>(try simp (disch:=first | omega | (simp only [List.length_set,List.length_append,List.length_cons,List.length_nil];done) | (simp only [List.length_set,List.length_append,List.length_cons,List.length_nil];omega)) only [hg,hltI,q1I,decide_true,decide_false,qb,go_sem,↓reduceIte])) | ((first | simp (disch:=omega) only [hg] | (refine cs_ ?_ ?_<;>intro hc) | refine cj_ ?_ | simp (disch:=omega) only [encs_getN,qb] | refine qa hd fun _=>?_ | refine qa hz fun _=>?_)<;>(try refine ev_ ?_)) | with_reducible exact ti_)
          all_goals try (exfalso;omega)
          refine qf (i + 1) [] ⟨⟨by omega,ha⟩,by omega⟩ rfl (by simp) ?_ ?_ ?_<;>(try refine ev_ ?_)<;>(try with_reducible exact ti_)<;>(try simp (disch:=omega) only [qb,and_true,true_and])
        ·rw [List.drop_of_length_le (by omega),List.all_nil] at ha
         have hltI:¬ (i:Int) < (l.length:Int):=by omega
         repeat' (first | refine vs_ ?_ | ((first | refine vr_ ?_ | fail)<;>(try simp only [hltI,decide_false,go_sem,↓reduceIte])) | ((first | (refine cs_ ?_ ?_<;>intro hc) | refine cj_ ?_ | simp (disch:=omega) only [encs_getN,qb])<;>(try refine ev_ ?_)) | with_reducible exact ti_)
         all_goals rw [← ha]
         all_goals rfl
end Go.Proofs.YtgglaabljlhliaaGreat
