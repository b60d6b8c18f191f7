/- Texts of this proof, joined. -/
import Derived.Test.YtgglaabljlhliaaGreatMbv
import Derived.Test.YtgglaabljlhliaaGreatMby
import Derived.Test.YtgglaabljlhliaaGreatMbw
import Derived.Test.YtgglaabljlhliaaGreatMbe
set_option linter.unusedVariables false
set_option linter.unusedSimpArgs false

/- chapter 25's statements: what is not too great; a type in a variable's place -/
set_option maxRecDepth 4000
namespace Go.Proofs.YtgglaabljlhliaaGreat
open Go Go.RowKit Go.V

def qnq (l:List Cls):Bool:=decide (l.length≤9) && l.all fun c=>decide (c.sup.length≤9)
theorem qse {l:List Cls} (h:qnq l = true):fewC l:=by
 rw [qnq,Bool.and_eq_true,decide_eq_true_eq] at h
 exact ⟨h.1,fun c hc=>by simpa using List.all_eq_true.1 h.2 c hc⟩
theorem qb3d (l:List Cls):qg Tryz.prog 37 [.sl 3 (qci l)] (.int .i64 (if qnq l = true then 1 else 0)):=by
 refine qd c0dz (by simp) (by simp only [go_sem]) rfl fun hw=>?_
 have hl:=(qga hw.1).1
 by_cases h9:9 < l.length
 ·have e:qnq l = false:=by rw [qnq,decide_eq_false (by omega),Bool.false_and]
  have hI:(9:Int) < (l.length:Int):=by omega
  rw [e]
  repeat' (first | refine vs_ ?_ | ((first | refine vr_ ?_ | fail)<;>(try simp only [hI,decide_true,decide_false,go_sem,↓reduceIte])) | ((first | (refine cs_ ?_ ?_<;>intro hc) | refine cj_ ?_ | simp (disch:=omega) only [encs_getN,qb])<;>(try refine ev_ ?_)) | with_reducible exact ti_)
 ·have e:qnq l = l.all fun c=>decide (c.sup.length≤9):=by rw [qnq,decide_eq_true (by omega),Bool.true_and]
  have hI:¬ (9:Int) < (l.length:Int):=by omega
  rw [e]
  repeat' (first | refine vs_ ?_ | ((first | refine vr_ ?_ | fail)<;>(try simp only [hI,decide_true,decide_false,go_sem,↓reduceIte])) | ((first | (refine cs_ ?_ ?_<;>intro hc) | refine cj_ ?_ | simp (disch:=omega) only [encs_getN,qb])<;>(try refine ev_ ?_)) | with_reducible exact ti_)
  refine qi (S:=Nat) (fun i=>i≤l.length∧(l.drop i).all (fun c=>decide (c.sup.length≤9)) = l.all fun c=>decide (c.sup.length≤9)) (fun i=>(⟨[(0,.sl 3 (qci l)),(3,.int .i64 i)],[]⟩,[])) (fun i=>l.length - i) ?_ fun i hi=>?_
  ·refine qf 0 [] ⟨Nat.zero_le _,rfl⟩ rfl (by simp) ?_ ?_ ?_<;>(try refine ev_ ?_)<;>(try with_reducible exact ti_)<;>(try simp (disch:=omega) only [qb,and_true,true_and])
  ·obtain ⟨hi,ha⟩:=hi
   by_cases hlt:i < l.length
   ·have hg:=qdq hlt
    rw [q01 hlt,List.all_cons] at ha
    have hltI:(i:Int) < (l.length:Int):=by omega
    generalize l.getD i C0 = q at *
    by_cases hq:9 < q.sup.length
    ·have hqI:(9:Int) < (q.sup.length:Int):=by omega
     rw [decide_eq_false (show ¬ q.sup.length≤9 by omega),Bool.false_and] at ha
     repeat' (first | refine vs_ ?_ | ((first | refine vr_ ?_ | fail)<;>(try simp (disch:=first | omega | (simp only [List.length_set,List.length_append,List.length_cons,List.length_nil];done) | (simp only [List.length_set,List.length_append,List.length_cons,List.length_nil];omega)) only [hg,hltI,hqI,decide_true,decide_false,qb,List.length_map,go_sem,↓reduceIte])) | ((first | simp (disch:=omega) only [hg] | (refine cs_ ?_ ?_<;>intro hc) | refine cj_ ?_ | simp (disch:=omega) only [encs_getN,qb])<;>(try refine ev_ ?_)) | with_reducible exact ti_)
     all_goals rw [← ha]
     all_goals rfl
    ·have hqI:¬ (9:Int) < (q.sup.length:Int):=by omega
     rw [decide_eq_true (show q.sup.length≤9 by omega),Bool.true_and] at ha
     repeat' (first | refine vs_ ?_ | ((first | refine vr_ ?_ | fail)<;>(try simp (disch:=first | omega | (simp only [List.length_set,List.length_append,List.length_cons,List.length_nil];done) | (simp only [List.length_set,List.length_append,List.length_cons,List.length_nil];omega)) only [hg,hltI,hqI,decide_true,decide_false,qb,List.length_map,go_sem,↓reduceIte])) | ((first | simp (disch:=omega) only [hg] | (refine cs_ ?_ ?_<;>intro hc) | refine cj_ ?_ | simp (disch:=omega) only [encs_getN,qb])<;>(try refine ev_ ?_)) | with_reducible exact ti_)
     refine qf (i + 1) [] ⟨⟨by omega,ha⟩,by omega⟩ rfl (by simp) ?_ ?_ ?_<;>(try refine ev_ ?_)<;>(try with_reducible exact ti_)<;>(try simp (disch:=omega) only [qb,and_true,true_and])
   ·rw [List.drop_of_length_le (by omega),List.all_nil] at ha
    have hltI:¬ (i:Int) < (l.length:Int):=by omega
    repeat' (first | refine vs_ ?_ | ((first | refine vr_ ?_ | fail)<;>(try simp only [hltI,decide_false,go_sem,↓reduceIte])) | ((first | (refine cs_ ?_ ?_<;>intro hc) | refine cj_ ?_ | simp (disch:=omega) only [encs_getN,qb])<;>(try refine ev_ ?_)) | with_reducible exact ti_)
    all_goals rw [← ha]
    all_goals rfl
def fewE (e:Env):Bool:=qnq e.cs && fewI e.is
theorem qbz9 (e:Env):qg Tryz.prog 19 [encV e] (.int .i64 (if fewE e = true then 1 else 0)):=by
 refine qd c0ea (by simp) (by simp only [go_sem]) rfl fun hw=>?_
 have h22:=qb3d e.cs
 have h23:=qb3y e.is
 unfold fewE
 generalize qnq e.cs = a at *
 generalize fewI e.is = b at *
 cases a<;>cases b
 all_goals (repeat' (first | refine vs_ ?_ | ((first | refine vr_ ?_ | refine qa h22 fun _=>?_ | refine qa h23 fun _=>?_ | (refine cs_ ?_ ?_<;>intro hc) | refine cj_ ?_ | fail)<;>(try refine ev_ ?_)) | with_reducible exact ti_))
 all_goals first | rfl | (exfalso;omega)
theorem q0t {e:Env} (h:fewE e = true):qg Tryz.prog 19 [encV e] (.int .i64 1):=qf4 (qbz9 e) (by rw [h];rfl)
theorem q8a {e:Env} (h:fewE e = false):qg Tryz.prog 19 [encV e] (.int .i64 0):=qf4 (qbz9 e) (by rw [h];rfl)
def shal (p:Pd):Bool:=!(decide (8 < dpY p.ty) && decide (20 < szY p.ty))
def qrk (e:Env) (g l:List Pd):Bool:=fewE e && (fewP g && (fewP l && l.all shal))
theorem qp8 (e:Env) (g l:List Pd):qg Tryz.prog 6 [encV e,.sl 4 (qn g),.sl 4 (qn l)] (.bool (qrk e g l)):=by
 refine qd c0eb (by simp) (by simp only [go_sem]) rfl fun hw=>?_
 have hl:=(qcq hw.2.2.1).1
 have h0:decide ((0:Int) = 0) = true:=rfl
 have h1:decide ((1:Int) = 0) = false:=rfl
 unfold qrk
 cases he:fewE e with
 | false =>
   have h24:=q8a he
   repeat' (first | refine vs_ ?_ | ((first | refine vr_ ?_ | fail)<;>(try simp only [h0,h1,go_sem,↓reduceIte])) | ((first | (refine cs_ ?_ ?_<;>intro hc) | refine cj_ ?_ | simp (disch:=omega) only [encs_getN,qb] | refine qa h24 fun _=>?_)<;>(try refine ev_ ?_)) | with_reducible exact ti_)
   all_goals rfl
 | true =>
   have h24:=q0t he
   cases hg:fewP g with
   | false =>
     have hG:=qot hg
     repeat' (first | refine vs_ ?_ | ((first | refine vr_ ?_ | fail)<;>(try simp only [h0,h1,go_sem,↓reduceIte])) | ((first | (refine cs_ ?_ ?_<;>intro hc) | refine cj_ ?_ | simp (disch:=omega) only [encs_getN,qb] | refine qa h24 fun _=>?_ | refine qa hG fun _=>?_)<;>(try refine ev_ ?_)) | with_reducible exact ti_)
     all_goals rfl
   | true =>
     have hG:=qg3 hg
     cases hp:fewP l with
     | false =>
       have hL:=qot hp
       repeat' (first | refine vs_ ?_ | ((first | refine vr_ ?_ | fail)<;>(try simp only [h0,h1,go_sem,↓reduceIte])) | ((first | (refine cs_ ?_ ?_<;>intro hc) | refine cj_ ?_ | simp (disch:=omega) only [encs_getN,qb] | refine qa h24 fun _=>?_ | refine qa hG fun _=>?_ | refine qa hL fun _=>?_)<;>(try refine ev_ ?_)) | with_reducible exact ti_)
       all_goals rfl
     | true =>
       have hL:=qg3 hp
       obtain ⟨_,hsz⟩:=qjs hl hp
       simp only [Bool.true_and]
       repeat' (first | refine vs_ ?_ | ((first | refine vr_ ?_ | fail)<;>(try simp only [h0,h1,go_sem,↓reduceIte])) | ((first | (refine cs_ ?_ ?_<;>intro hc) | refine cj_ ?_ | simp (disch:=omega) only [encs_getN,qb] | refine qa h24 fun _=>?_ | refine qa hG fun _=>?_ | refine qa hL fun _=>?_)<;>(try refine ev_ ?_)) | with_reducible exact ti_)
       all_goals try (exfalso;omega)
       refine qi (S:=Nat) (fun i=>i≤l.length∧(l.drop i).all shal = l.all shal) (fun i=>(⟨[(2,.sl 4 (qn l)),(7,.int .i64 i)],[]⟩,[])) (fun i=>l.length - i) ?_ fun i hi=>?_
       ·refine qf 0 [] ⟨Nat.zero_le _,rfl⟩ rfl (by simp) ?_ ?_ ?_<;>(try refine ev_ ?_)<;>(try with_reducible exact ti_)<;>(try simp (disch:=omega) only [qb,and_true,true_and])
       ·obtain ⟨hi,ha⟩:=hi
        by_cases hlt:i < l.length
        ·have hg:=qb1 hlt
         have hd:=qle (l.getD i P0).ty
         have hz:=ql7 (l.getD i P0).ty
         obtain ⟨z1,z2⟩:=hsz _ (qf8 hlt)
         rw [qlu _ (by omega)] at hd
         rw [qik _ (by omega)] at hz
         rw [V.dropP hlt,List.all_cons] at ha
         have hltI:(i:Int) < (l.length:Int):=by omega
         generalize l.getD i P0 = q at *
         by_cases q1:8 < dpY q.ty
         ·have q1I:(8:Int) < (dpY q.ty:Int):=by omega
          by_cases q2:20 < szY q.ty
          ·have q2I:(20:Int) < (szY q.ty:Int):=by omega
           rw [shal,decide_eq_true q1,decide_eq_true q2] at ha
           repeat' (first | refine vs_ ?_ | ((first | refine vr_ ?_ | fail)<;>(try simp (disch:=first | omega | (simp only [List.length_set,List.length_append,List.length_cons,List.length_nil];done) | (simp only [List.length_set,List.length_append,List.length_cons,List.length_nil];omega)) only [hg,hltI,q1I,q2I,decide_true,decide_false,qb,go_sem,↓reduceIte])) | ((first | simp (disch:=omega) only [hg] | (refine cs_ ?_ ?_<;>intro hc) | refine cj_ ?_ | simp (disch:=omega) only [encs_getN,qb] | refine qa hd fun _=>?_ | refine qa hz fun _=>?_)<;>(try refine ev_ ?_)) | with_reducible exact ti_)
           all_goals try (exfalso;omega)
           all_goals rw [← ha]
           all_goals rfl
          ·have q2I:¬ (20:Int) < (szY q.ty:Int):=by omega
           rw [shal,decide_eq_false q2,Bool.and_false,Bool.not_false,Bool.true_and] at ha
           repeat' (first | refine vs_ ?_ | ((first | refine vr_ ?_ | fail)<;>(try simp (disch:=first | omega | (simp only [List.length_set,List.length_append,List.length_cons,List.length_nil];done) | (simp only [List.length_set,List.length_append,List.length_cons,List.length_nil];omega)) only [hg,hltI,q1I,q2I,decide_true,decide_false,qb,go_sem,↓reduceIte])) | ((first | simp (disch:=omega) only [hg] | (refine cs_ ?_ ?_<;>intro hc) | refine cj_ ?_ | simp (disch:=omega) only [encs_getN,qb] | refine qa hd fun _=>?_ | refine qa hz fun _=>?_)<;>(try refine ev_ ?_)) | with_reducible exact ti_)
           all_goals try (exfalso;omega)
           refine qf (i + 1) [] ⟨⟨by omega,ha⟩,by omega⟩ rfl (by simp) ?_ ?_ ?_<;>(try refine ev_ ?_)<;>(try with_reducible exact ti_)<;>(try simp (disch:=omega) only [qb,and_true,true_and])
         ·have q1I:¬ (8:Int) < (dpY q.ty:Int):=by omega
          rw [shal,decide_eq_false q1,Bool.false_and,Bool.not_false,Bool.true_and] at ha
          repeat' (first | refine vs_ ?_ | ((first | refine vr_ ?_ | fail)<;>(try simp (disch:=first | omega | (simp only [List.length_set,List.length_append,List.length_cons,List.length_nil];done) | (simp only [List.length_set,List.length_append,List.length_cons,List.length_nil];omega)) only [hg,hltI,q1I,decide_true,decide_false,qb,go_sem,↓reduceIte])) | ((first | simp (disch:=omega) only [hg] | (refine cs_ ?_ ?_<;>intro hc) | refine cj_ ?_ | simp (disch:=omega) only [encs_getN,qb] | refine qa hd fun _=>?_ | refine qa hz fun _=>?_)<;>(try refine ev_ ?_)) | with_reducible exact ti_)
          all_goals try (exfalso;omega)
          refine qf (i + 1) [] ⟨⟨by omega,ha⟩,by omega⟩ rfl (by simp) ?_ ?_ ?_<;>(try refine ev_ ?_)<;>(try with_reducible exact ti_)<;>(try simp (disch:=omega) only [qb,and_true,true_and])
        ·rw [List.drop_of_length_le (by omega),List.all_nil] at ha
         have hltI:¬ (i:Int) < (l.length:Int):=by omega
         repeat' (first | refine vs_ ?_ | ((first | refine vr_ ?_ | fail)<;>(try simp only [hltI,decide_false,go_sem,↓reduceIte])) | ((first | (refine cs_ ?_ ?_<;>intro hc) | refine cj_ ?_ | simp (disch:=omega) only [encs_getN,qb])<;>(try refine ev_ ?_)) | with_reducible exact ti_)
         all_goals rw [← ha]
         all_goals rfl
set_option maxRecDepth 4000

def eqW:List UInt8:=[69,113]
def ordW:List UInt8:=[79,114,100]
def e25:Env:=⟨[],rfl,[⟨eqW,[],[],rfl⟩,⟨ordW,[eqW],[],rfl⟩],[⟨eqW,[76],1,[⟨eqW,Y0⟩]⟩,⟨eqW,[73,110,116],0,[]⟩]⟩
def tLI:Ty:=⟨[76],0,[wInt]⟩
def tLa:Ty:=⟨[76],0,[Y0]⟩
def pLI:Pd:=⟨eqW,tLI⟩
def pLa:Pd:=⟨eqW,tLa⟩
def pOr:Pd:=⟨ordW,Y0⟩
def pEq:Pd:=⟨eqW,Y0⟩
theorem qj5:fewC e25.cs:=qse (by rfl)
theorem qm6:∀ x∈e25.is,smlI x:=by
 intro x hx
 simp [e25] at hx
 rcases hx with rfl | rfl
 ·exact ⟨by decide,by decide⟩
 ·exact ⟨by decide,by decide⟩
def P25a:Prf:=.mk 3 0 [wInt] [.mk 3 1 [] []]
def P25b:Prf:=.mk 3 0 [Y0] [.mk 2 0 [] [.mk 1 0 [] []]]
theorem qb3h:byW e25 [] pLI = (P25a,0):=by kernel_rfl
theorem qb39:byW e25 [pOr] pLa = (P25b,0):=by kernel_rfl
theorem qb29:byW e25 [] pLa = (Pf0,16):=by kernel_rfl
theorem qb3p:(supF e25.cs pEq [pOr] 0).isSome = true:=by kernel_rfl
theorem qb4k:allW e25 [] [pLI,pLa] = ([],1,16):=by kernel_rfl
theorem qb4b:(allW e25 [] []).2.2 = 0:=by kernel_rfl
theorem qb3l:(allW e25 [] [pEq]).2.2 = 16:=by kernel_rfl
theorem qb4l:qg Tryz.prog 22 [.str [76,32,73,110,116]] (.tup [encY tLI,.int .i64 0]):=by
 have h:=qmk (q2k (s:=[76,32,73,110,116]) (t:=tLI) (r:=⟨[],0,false⟩) rfl (by decide) (by decide) (by decide) (by decide) (by decide))
 have e:q1a [76,32,73,110,116] = (tLI,0):=rfl
 rw [e] at h
 exact h
theorem qb4f:qg Tryz.prog 22 [.str [76,32,97]] (.tup [encY tLa,.int .i64 0]):=by
 have h:=qmk (q2k (s:=[76,32,97]) (t:=tLa) (r:=⟨[],0,false⟩) rfl (by decide) (by decide) (by decide) (by decide) (by decide))
 have e:q1a [76,32,97] = (tLa,0):=rfl
 rw [e] at h
 exact h
theorem qmg:∀ q∈([]:List Pd),szY q.ty≤20000∧dpY q.ty≤300:=fun q hq=>by cases hq
theorem qb4n:qg Tryz.prog 8 [encV e25,.sl 4 [],encP pLI] (.tup [qbo P25a,.int .i64 0]):=by
 have h:=qdt (e:=e25) [] (p:=pLI) qj5 qm6 qmg (by decide)
 rw [qb3h] at h
 exact h
theorem qb3e:qg Tryz.prog 8 [encV e25,.sl 4 (qn [pOr]),encP pLa] (.tup [qbo P25b,.int .i64 0]):=by
 have h:=qdt (e:=e25) [pOr] (p:=pLa) qj5 qm6 (by intro q hq;simp at hq;subst hq;decide) (by decide)
 rw [qb39] at h
 exact h
theorem qb4i:qg Tryz.prog 8 [encV e25,.sl 4 [],encP pLa] (.tup [qbo Pf0,.int .i64 16]):=by
 have h:=qdt (e:=e25) [] (p:=pLa) qj5 qm6 qmg (by decide)
 rw [qb29] at h
 exact h
theorem qb4m:∃ x,qg Tryz.prog 23 [encV e25,.sl 4 (qn [pOr]),encP pEq] (.tup [qbo x,.bool true]):=by
 have h:=qi0 (e:=e25) qj5 [pOr] pEq
 have e:=qb3p
 cases hs:supF e25.cs pEq [pOr] 0 with
 | none=>rw [hs] at e;cases e
 | some x=>rw [hs] at h;exact ⟨x,h⟩
theorem qb3q:qg Tryz.prog 24 [encV e25,.sl 4 [],.sl 4 (qn [pLI,pLa])] (.tup [.sl 4 [],.int .i64 1,.int .i64 16]):=by
 have h:=qm8 (e:=e25) [] [pLI,pLa] qj5 qm6 qmg (by intro q hq;simp at hq;rcases hq with rfl | rfl<;>decide) (by decide)
 rw [qb4k] at h
 exact h
theorem qb3a:qg Tryz.prog 17 [encV e25,.sl 4 [],.sl 4 []] (.bool true):=by
 have h:=qgk (e:=e25) [] [] qj5 qm6 qmg qmg (by decide)
 rw [qb4b] at h
 exact h
theorem qb30:qg Tryz.prog 17 [encV e25,.sl 4 [],.sl 4 (qn [pEq])] (.bool false):=by
 have h:=qgk (e:=e25) [] [pEq] qj5 qm6 qmg (by intro q hq;simp at hq;subst hq;decide) (by decide)
 rw [qb3l] at h
 exact h
theorem qb3x:qg Tryz.prog 25 [qbo (.mk 3 1 [] [])] (.str [64,49]):=q5n rfl rfl rfl
theorem qb38:qg Tryz.prog 25 [qbo (.mk 1 0 [] [])] (.str [35,48]):=q0c rfl rfl
theorem qb3c:qg Tryz.prog 25 [qbo (.mk 2 0 [] [.mk 1 0 [] []])] (.str [35,48,46,48]):=q3g rfl rfl rfl qb38
theorem qb3m:qg Tryz.prog 25 [qbo P25a] (.str [64,48,40,64,49,41]):=qrm rfl rfl rfl qb3x (by decide)
theorem qb4g:qg Tryz.prog 25 [qbo P25b] (.str [64,48,40,35,48,46,48,41]):=qrm rfl rfl rfl qb3c (by decide)
set_option maxHeartbeats 2000000 in
theorem qe6:qg Tryz.prog 7 [] (.bool true):=by
 refine qd c0db (by simp) rfl rfl fun hw=>?_
 obtain ⟨x,hd⟩:=qb4m
 repeat' (first | refine vs_ ?_ | ((first | refine vr_ ?_ | refine qa qb4l fun _=>?_ | refine qa qb4f fun _=>?_ | refine qa qb4n fun _=>?_ | refine qa qb3e fun _=>?_ | refine qa qb4i fun _=>?_ | refine qa hd fun _=>?_ | refine qa qb3q fun _=>?_ | refine qa qb3a fun _=>?_ | refine qa qb30 fun _=>?_ | refine qa qb3m fun _=>?_ | refine qa qb4g fun _=>?_ | (refine cs_ ?_ ?_<;>intro hc) | refine cj_ ?_ | fail)<;>(try refine ev_ ?_)) | with_reducible exact ti_)
 all_goals trace_state
set_option maxRecDepth 4000

end Go.Proofs.YtgglaabljlhliaaGreat
