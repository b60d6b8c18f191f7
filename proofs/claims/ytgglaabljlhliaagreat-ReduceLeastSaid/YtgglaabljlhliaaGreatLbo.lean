/- A text of this proof. -/
import Derived.Test.YtgglaabljlhliaaGreatLbm
import Derived.Test.YtgglaabljlhliaaGreatLaz
set_option linter.unusedVariables false
set_option linter.unusedSimpArgs false

/- what may be; functions over rows -/
set_option maxRecDepth 4000
namespace Go.Proofs.YtgglaabljlhliaaGreat
open Go Go.RowKit Go.V

def idxB {α:Type} (g:α->Bool):List α->Nat->Int
 | [],_=>-1
 | x :: r,i=>if g x = true then (i:Int) else idxB g r (i + 1)
theorem qpw {α:Type} (g:α->Bool):∀ (l:List α) (i:Nat),decide (0≤idxB g l i) = l.any g
 | [],i=>rfl
 | x :: r, i => by
   rw [idxB,List.any_cons]
   split
   ·rename_i h;rw [h];simp
   ·rename_i h
    have h:g x = false:=by simpa using h
    rw [h,Bool.false_or,qpw g r (i + 1)]
theorem qg9 {p:Pd} (h1:szY p.ty≤20000) (h2:dpY p.ty≤300):qk Tryz.prog 26 [encP p] (.bool (!qbn p)):=by
 refine qd c0dr (by simp) (by simp only [go_sem]) rfl fun hw=>?_
 have hL:=qkl h1 h2
 generalize qbn p = b at *
 cases b
 all_goals (repeat' (first | refine vs_ ?_ | ((first | refine vr_ ?_ | refine qa hL fun _=>?_ | (refine cs_ ?_ ?_<;>intro hc) | refine cj_ ?_ | fail)<;>(try refine ev_ ?_)) | with_reducible exact ti_))
theorem q8r {f:FuncId} {g:Pd->Bool} {l:List Pd} (hs:∀ q∈l,qk Tryz.prog f [encP q] (.bool (g q))):qk Tryz.prog 47 [.sl 4 (qg l),.fn f [] []] (.int .i64 (idxB g l 0)):=by
 refine qd c0cs (by simp) (by simp only [go_sem]) rfl fun hw=>?_
 have hl:=(qca hw.1).1
 repeat' (first | refine vs_ ?_ | ((first | refine vr_ ?_ | (refine cs_ ?_ ?_<;>intro hc) | refine cj_ ?_ | simp (disch:=omega) only [encs_getN,qb])<;>(try refine ev_ ?_)) | with_reducible exact ti_)
 refine qj (S:=Nat) (fun i=>i≤l.length∧idxB g (l.drop i) i = idxB g l 0) (fun i=>(⟨[(0,.sl 4 (qg l)),(1,.fn f [] []),(7,.int .i64 l.length),(8,.int .i64 i)],[]⟩,[])) (fun i=>l.length - i) ?_ fun i hi=>?_
 ·refine qf 0 [] ⟨Nat.zero_le _,rfl⟩ rfl (by simp) ?_ ?_ ?_<;>(try refine ev_ ?_)<;>(try with_reducible exact ti_)<;>(try simp (disch:=omega) only [qb,and_true,true_and])
 obtain ⟨hi,ha⟩:=hi
 by_cases hlt:i < l.length
 ·have hg:=q8 hlt
  have hq:=hs _ (qdf hlt)
  rw [V.dropP hlt,idxB] at ha
  have hltI:(i:Int) < (l.length:Int):=by omega
  generalize l.getD i P0 = q at *
  generalize g q = b at *
  cases b with
  | true =>
    rw [if_pos rfl] at ha
    repeat' (first | refine vs_ ?_ | ((first | refine vr_ ?_ | fail)<;>(try simp (disch:=first | omega | (simp only [List.length_set,List.length_append,List.length_cons,List.length_nil];done) | (simp only [List.length_set,List.length_append,List.length_cons,List.length_nil];omega)) only [hg,hltI,qb,go_sem,↓reduceIte])) | ((first | simp (disch:=omega) only [hg] | (refine cs_ ?_ ?_<;>intro hc) | refine cj_ ?_ | simp (disch:=omega) only [encs_getN,qb] | refine qa hq fun _=>?_)<;>(try refine ev_ ?_)) | with_reducible exact ti_)
    all_goals rw [← ha]
  | false =>
    rw [if_neg (by simp)] at ha
    repeat' (first | refine vs_ ?_ | ((first | refine vr_ ?_ | fail)<;>(try simp (disch:=first | omega | (simp only [List.length_set,List.length_append,List.length_cons,List.length_nil];done) | (simp only [List.length_set,List.length_append,List.length_cons,List.length_nil];omega)) only [hg,hltI,qb,go_sem,↓reduceIte])) | ((first | simp (disch:=omega) only [hg] | (refine cs_ ?_ ?_<;>intro hc) | refine cj_ ?_ | simp (disch:=omega) only [encs_getN,qb] | refine qa hq fun _=>?_)<;>(try refine ev_ ?_)) | with_reducible exact ti_)
    refine qf (i + 1) [] ⟨⟨by omega,ha⟩,by omega⟩ rfl (by simp) ?_ ?_ ?_<;>(try refine ev_ ?_)<;>(try with_reducible exact ti_)<;>(try simp (disch:=omega) only [qb,and_true,true_and])
 ·rw [List.drop_of_length_le (by omega),idxB] at ha
  have hltI:¬ (i:Int) < (l.length:Int):=by omega
  repeat' (first | refine vs_ ?_ | ((first | refine vr_ ?_ | fail)<;>(try simp only [hltI,go_sem,↓reduceIte])) | ((first | (refine cs_ ?_ ?_<;>intro hc) | refine cj_ ?_ | simp (disch:=omega) only [encs_getN,qb])<;>(try refine ev_ ?_)) | with_reducible exact ti_)
  all_goals rw [← ha]
theorem qbdc {f:FuncId} {g:Pd->Bool} {l:List Pd} (hs:∀ q∈l,qk Tryz.prog f [encP q] (.bool (g q))):qk Tryz.prog 27 [.sl 4 (qg l),.fn f [] []] (.bool (l.any g)):=by
 refine qd c0ct (by simp) (by simp only [go_sem]) rfl fun hw=>?_
 repeat' (first | refine vs_ ?_ | ((first | refine vr_ ?_ | refine qa (q8r hs) fun _=>?_ | (refine cs_ ?_ ?_<;>intro hc) | refine cj_ ?_ | fail)<;>(try refine ev_ ?_)) | with_reducible exact ti_)
 rw [qpw]
theorem q9i {f:FuncId} {g:Ins->Bool} {l:List Ins} (hs:∀ q∈l,qk Tryz.prog f [encI q] (.bool (g q))):qk Tryz.prog 82 [.sl 4 (qbv l),.fn f [] []] (.int .i64 (idxB g l 0)):=by
 refine qd c0ds (by simp) (by simp only [go_sem]) rfl fun hw=>?_
 have hl:=(qe3 hw.1).1
 repeat' (first | refine vs_ ?_ | ((first | refine vr_ ?_ | (refine cs_ ?_ ?_<;>intro hc) | refine cj_ ?_ | simp (disch:=omega) only [encs_getN,qb])<;>(try refine ev_ ?_)) | with_reducible exact ti_)
 refine qj (S:=Nat) (fun i=>i≤l.length∧idxB g (l.drop i) i = idxB g l 0) (fun i=>(⟨[(0,.sl 4 (qbv l)),(1,.fn f [] []),(7,.int .i64 l.length),(8,.int .i64 i)],[]⟩,[])) (fun i=>l.length - i) ?_ fun i hi=>?_
 ·refine qf 0 [] ⟨Nat.zero_le _,rfl⟩ rfl (by simp) ?_ ?_ ?_<;>(try refine ev_ ?_)<;>(try with_reducible exact ti_)<;>(try simp (disch:=omega) only [qb,and_true,true_and])
 obtain ⟨hi,ha⟩:=hi
 by_cases hlt:i < l.length
 ·have hg:=qe1 hlt
  have hq:=hs _ (qcq hlt)
  rw [q4q hlt,idxB] at ha
  have hltI:(i:Int) < (l.length:Int):=by omega
  generalize l.getD i I0 = q at *
  generalize g q = b at *
  cases b with
  | true =>
    rw [if_pos rfl] at ha
    repeat' (first | refine vs_ ?_ | ((first | refine vr_ ?_ | fail)<;>(try simp (disch:=first | omega | (simp only [List.length_set,List.length_append,List.length_cons,List.length_nil];done) | (simp only [List.length_set,List.length_append,List.length_cons,List.length_nil];omega)) only [hg,hltI,qb,go_sem,↓reduceIte])) | ((first | simp (disch:=omega) only [hg] | (refine cs_ ?_ ?_<;>intro hc) | refine cj_ ?_ | simp (disch:=omega) only [encs_getN,qb] | refine qa hq fun _=>?_)<;>(try refine ev_ ?_)) | with_reducible exact ti_)
    all_goals rw [← ha]
  | false =>
    rw [if_neg (by simp)] at ha
    repeat' (first | refine vs_ ?_ | ((first | refine vr_ ?_ | fail)<;>(try simp (disch:=first | omega | (simp only [List.length_set,List.length_append,List.length_cons,List.length_nil];done) | (simp only [List.length_set,List.length_append,List.length_cons,List.length_nil];omega)) only [hg,hltI,qb,go_sem,↓reduceIte])) | ((first | simp (disch:=omega) only [hg] | (refine cs_ ?_ ?_<;>intro hc) | refine cj_ ?_ | simp (disch:=omega) only [encs_getN,qb] | refine qa hq fun _=>?_)<;>(try refine ev_ ?_)) | with_reducible exact ti_)
    refine qf (i + 1) [] ⟨⟨by omega,ha⟩,by omega⟩ rfl (by simp) ?_ ?_ ?_<;>(try refine ev_ ?_)<;>(try with_reducible exact ti_)<;>(try simp (disch:=omega) only [qb,and_true,true_and])
 ·rw [List.drop_of_length_le (by omega),idxB] at ha
  have hltI:¬ (i:Int) < (l.length:Int):=by omega
  repeat' (first | refine vs_ ?_ | ((first | refine vr_ ?_ | fail)<;>(try simp only [hltI,go_sem,↓reduceIte])) | ((first | (refine cs_ ?_ ?_<;>intro hc) | refine cj_ ?_ | simp (disch:=omega) only [encs_getN,qb])<;>(try refine ev_ ?_)) | with_reducible exact ti_)
  all_goals rw [← ha]
theorem q71 {f:FuncId} {g:Ins->Bool} {l:List Ins} (hs:∀ q∈l,qk Tryz.prog f [encI q] (.bool (g q))):qk Tryz.prog 49 [.sl 4 (qbv l),.fn f [] []] (.bool (l.any g)):=by
 refine qd c0dt (by simp) (by simp only [go_sem]) rfl fun hw=>?_
 repeat' (first | refine vs_ ?_ | ((first | refine vr_ ?_ | refine qa (q9i hs) fun _=>?_ | (refine cs_ ?_ ?_<;>intro hc) | refine cj_ ?_ | fail)<;>(try refine ev_ ?_)) | with_reducible exact ti_)
 rw [qpw]
theorem q41 (x:Ins):qk Tryz.prog 50 [encI x] (.bool (!decide (chkI x = 0))):=by
 refine qd c0du (by simp) (by simp only [go_sem]) rfl fun hw=>?_
 have hC:=qll x
 generalize chkI x = c at *
 by_cases h:c = 0
 ·repeat' (first | refine vs_ ?_ | ((first | refine vr_ ?_ | fail)<;>(try simp only [h,go_sem,↓reduceIte])) | ((first | (refine cs_ ?_ ?_<;>intro hc) | refine cj_ ?_ | fail | refine qa hC fun _=>?_)<;>(try refine ev_ ?_)) | with_reducible exact ti_)
  all_goals simp [h]
 ·repeat' (first | refine vs_ ?_ | ((first | refine vr_ ?_ | fail)<;>(try simp only [h,go_sem,↓reduceIte])) | ((first | (refine cs_ ?_ ?_<;>intro hc) | refine cj_ ?_ | fail | refine qa hC fun _=>?_)<;>(try refine ev_ ?_)) | with_reducible exact ti_)
  all_goals simp [h]
def sndE (e:Env):Bool:=decide ((chkC e.cs).2 = 0) && !(e.is.any fun x=>!decide (chkI x = 0))
theorem qr9 {e:Env} (hf:fewC e.cs):qk Tryz.prog 28 [encV e] (.bool (sndE e)):=by
 refine qd c0dv (by simp) (by simp only [go_sem]) rfl fun hw=>?_
 have hC:=qf0 hf
 have hI:=q71 (f:=50) (l:=e.is) (g:=fun x=>!decide (chkI x = 0)) fun q _=>q41 q
 unfold sndE prA at *
 generalize (e.is.any fun x=>!decide (chkI x = 0)) = b at *
 generalize chkC e.cs = c at *
 obtain ⟨c1,c2⟩:=c
 dsimp only at hC ⊢
 by_cases h:c2 = 0
 ·cases b
  all_goals (repeat' (first | refine vs_ ?_ | ((first | refine vr_ ?_ | fail)<;>(try simp only [h,go_sem,↓reduceIte])) | ((first | (refine cs_ ?_ ?_<;>intro hc) | refine cj_ ?_ | fail | refine qa hC fun _=>?_ | refine qa hI fun _=>?_)<;>(try refine ev_ ?_)) | with_reducible exact ti_))
  all_goals simp [h]
 ·repeat' (first | refine vs_ ?_ | ((first | refine vr_ ?_ | fail)<;>(try simp only [h,go_sem,↓reduceIte])) | ((first | (refine cs_ ?_ ?_<;>intro hc) | refine cj_ ?_ | fail | refine qa hC fun _=>?_ | refine qa hI fun _=>?_)<;>(try refine ev_ ?_)) | with_reducible exact ti_)
  all_goals simp [h]
end Go.Proofs.YtgglaabljlhliaaGreat
