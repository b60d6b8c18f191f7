/- Texts of this proof, joined. -/
import Derived.Test.YtlmcofjcpadmiaaGreatWbe
import Derived.Test.YtlmcofjcpadmiaaGreatWay
set_option linter.unusedVariables false
set_option linter.unusedSimpArgs false

/- trees that are written: the program's functions -/
set_option maxRecDepth 4000
namespace Go.Proofs.YtlmcofjcpadmiaaGreat
open Go Go.RowKit Go.V

def orE (b:Bool) (s:List UInt8):List UInt8:=if b = true then s else []
def outT (n:N):List UInt8:=orE (lowW n && tyW n) (ptT n)
def outP (n:N):List UInt8:=orE (lowW n && paW n) (ptP n)
def outE (n:N):List UInt8:=orE (lowW n && exW n) (ptE n)
def sigN (n:N):N:=.mk 32 0 0 [120] [n]
def outQ (n:N):List UInt8:=orE (qcz (sigN n)) (quT n)
def outD (n:N):List UInt8:=orE (!decide (n.kind = 37) && qcz n) (ptD n)
def outG (n:N):List UInt8:=orE (decide (n.kind = 37) && qcz n) (ptG n)
theorem qdo {x:AV} {s:List UInt8} {b:Bool} (hx:x.bd 0 = true) (h:b = true->qh Tryz.prog 46 [x] (.str s)):qh Tryz.prog 33 [.bool b,x] (.str (orE b s)):=by
 refine qe c0b (by simp) (by simp only [AV.bds,AV.bd,hx];rfl) rfl fun hw=>?_
 cases b with
 | true =>
   have h:=h rfl
   repeat' (first | refine vs_ ?_ | ((first | refine vr_ ?_ | refine qa h fun _=>?_ | (refine cs_ ?_ ?_<;>intro hc) | refine cj_ ?_ | fail)<;>(try refine ev_ ?_)) | with_reducible exact ti_)
   all_goals rfl
 | false =>
   repeat' (first | refine vs_ ?_ | ((first | refine vr_ ?_ | (refine cs_ ?_ ?_<;>intro hc) | refine cj_ ?_ | fail)<;>(try refine ev_ ?_)) | with_reducible exact ti_)
   all_goals rfl
theorem qgv {n:N} (hs:sz n≤1000000) (hl:(outT n).length + 4≤Big):qh Tryz.prog 9 [enc n] (.str (outT n)):=by
 refine qe c0c (by simp) (by simp only [go_sem]) rfl fun hw=>?_
 have h1:=qpe n
 have h2:=qdo (b:=lowW n && tyW n) (s:=ptT n) (qf5 (t:=37) n) fun hb=>by
  rw [outT,orE,if_pos hb] at hl
  rw [Bool.and_eq_true] at hb
  exact qbj n hb.2 hs (by omega)
 repeat' (first | refine vs_ ?_ | ((first | refine vr_ ?_ | refine qa h1 fun _=>?_ | refine qa h2 fun _=>?_ | refine qc h1 ?_ | refine qc h2 ?_ | (refine cs_ ?_ ?_<;>intro hc) | refine cj_ ?_ | fail)<;>(try refine ev_ ?_)) | with_reducible exact ti_)
 all_goals rfl
theorem qhi {n:N} (hs:sz n≤1000000) (hl:(outP n).length + 4≤Big):qh Tryz.prog 13 [enc n] (.str (outP n)):=by
 refine qe c0d (by simp) (by simp only [go_sem]) rfl fun hw=>?_
 have h1:=qr9 n
 have h2:=qdo (b:=lowW n && paW n) (s:=ptP n) (qf5 (t:=38) n) fun hb=>by
  rw [outP,orE,if_pos hb] at hl
  rw [Bool.and_eq_true] at hb
  exact qgo n hb.2 hs (by omega)
 repeat' (first | refine vs_ ?_ | ((first | refine vr_ ?_ | refine qa h1 fun _=>?_ | refine qa h2 fun _=>?_ | refine qc h1 ?_ | refine qc h2 ?_ | (refine cs_ ?_ ?_<;>intro hc) | refine cj_ ?_ | fail)<;>(try refine ev_ ?_)) | with_reducible exact ti_)
 all_goals rfl
theorem qe5 {n:N} (hs:sz n≤1000000) (hl:(outE n).length + 4≤Big):qh Tryz.prog 15 [enc n] (.str (outE n)):=by
 refine qe c0e (by simp) (by simp only [go_sem]) rfl fun hw=>?_
 have h1:=qtr n
 have h2:=qdo (b:=lowW n && exW n) (s:=ptE n) (qf5 (t:=39) n) fun hb=>by
  rw [outE,orE,if_pos hb] at hl
  rw [Bool.and_eq_true] at hb
  exact (qcj n hs).1 hb.2 (by omega)
 repeat' (first | refine vs_ ?_ | ((first | refine vr_ ?_ | refine qa h1 fun _=>?_ | refine qa h2 fun _=>?_ | refine qc h1 ?_ | refine qc h2 ?_ | (refine cs_ ?_ ?_<;>intro hc) | refine cj_ ?_ | fail)<;>(try refine ev_ ?_)) | with_reducible exact ti_)
 all_goals rfl
theorem qq7 {n:N} (h:qcz (sigN n) = true):lowW (sigN n) = true∧quW n = true:=by
 unfold qcz at h
 rw [if_neg (show ¬ (sigN n).kind = 37 by show ¬ (32:Int) = 37;decide),Bool.and_eq_true] at h
 refine ⟨h.1,?_⟩
 have h2:=h.2
 unfold deW at h2
 rw [if_neg (show ¬ (sigN n).kind = 31 by show ¬ (32:Int) = 31;decide),if_pos (show (sigN n).kind = 32 from rfl)] at h2
 exact (qeu h2).2.2.2.2
theorem qgu {n:N} (hs:sz n≤900000) (hl:(outQ n).length + 4≤Big):qh Tryz.prog 11 [enc n] (.str (outQ n)):=by
 refine qe c0f (by simp) (by simp only [go_sem]) rfl fun hw=>?_
 have h1:=qgi (sigN n)
 have h1:qh Tryz.prog 30 [.agg [.int .i64 32,.int .i64 0,.int .i64 0,.str [120],.sl 5 [enc n]]] (.bool (qcz (sigN n))):=h1
 cases hb:qcz (sigN n) with
 | true =>
   rw [hb] at h1
   rw [outQ,orE,hb,if_pos rfl] at hl ⊢
   have h2:=qgx (qq7 hb).2 (by omega) hl
   repeat' (first | refine vs_ ?_ | ((first | refine vr_ ?_ | refine qa h1 fun _=>?_ | refine qa h2 fun _=>?_ | (refine cs_ ?_ ?_<;>intro hc) | refine cj_ ?_ | fail)<;>(try refine ev_ ?_)) | with_reducible exact ti_)
 | false =>
   rw [hb] at h1
   rw [outQ,orE,hb,if_neg Bool.false_ne_true]
   repeat' (first | refine vs_ ?_ | ((first | refine vr_ ?_ | refine qa h1 fun _=>?_ | (refine cs_ ?_ ?_<;>intro hc) | refine cj_ ?_ | fail)<;>(try refine ev_ ?_)) | with_reducible exact ti_)
theorem qnd {n:N} (h0:¬ n.kind = 37) (h:qcz n = true):lowW n = true∧deW n = true:=by
 unfold qcz at h
 rw [if_neg h0,Bool.and_eq_true] at h
 exact h
theorem qib {n:N} (h0:n.kind = 37) (h:qcz n = true):lowW n = true∧qe7 n = true∧∀ x∈n.kids,deW x = true:=by
 unfold qcz at h
 rw [if_pos h0,Bool.and_eq_true,Bool.and_eq_true,List.all_eq_true] at h
 exact ⟨h.1.1,h.1.2,h.2⟩
theorem qgl {n:N} (hs:sz n≤1000000) (hl:(outD n).length + 4≤Big):qh Tryz.prog 17 [enc n] (.str (outD n)):=by
 refine qe c0g (by simp) (by simp only [go_sem]) rfl fun hw=>?_
 have h1:=qgi n
 have h2:=qdo (b:=!decide (n.kind = 37) && qcz n) (s:=ptD n) (qf5 (t:=40) n) fun hb=>by
  rw [outD,orE,if_pos hb] at hl
  rw [Bool.and_eq_true,Bool.not_eq_true',decide_eq_false_iff_not] at hb
  have:=qgm (qnd hb.1 hb.2).2 hs hl
  exact this
 by_cases h0:n.kind = 37
 ·have e:decide (n.kind = 37) = true:=decide_eq_true h0
  rw [e,Bool.not_true,Bool.false_and] at h2
  rw [outD,e,Bool.not_true,Bool.false_and]
  repeat' (first | refine vs_ ?_ | ((first | refine vr_ ?_ | fail)<;>(try simp only [e,go_sem,↓reduceIte])) | ((first | (refine cs_ ?_ ?_<;>intro hc) | refine cj_ ?_ | fail | refine qa h1 fun _=>?_ | refine qa h2 fun _=>?_ | refine qc h1 ?_ | refine qc h2 ?_)<;>(try refine ev_ ?_)) | with_reducible exact ti_)
 ·have e:decide (n.kind = 37) = false:=decide_eq_false h0
  rw [e,Bool.not_false,Bool.true_and] at h2
  rw [outD,e,Bool.not_false,Bool.true_and]
  repeat' (first | refine vs_ ?_ | ((first | refine vr_ ?_ | fail)<;>(try simp only [e,go_sem,↓reduceIte])) | ((first | (refine cs_ ?_ ?_<;>intro hc) | refine cj_ ?_ | fail | refine qa h1 fun _=>?_ | refine qa h2 fun _=>?_ | refine qc h1 ?_ | refine qc h2 ?_)<;>(try refine ev_ ?_)) | with_reducible exact ti_)
theorem qec {n:N} (hs:sz n≤1000000) (hl:(outG n).length + 4≤Big):qh Tryz.prog 19 [enc n] (.str (outG n)):=by
 refine qe c0h (by simp) (by simp only [go_sem]) rfl fun hw=>?_
 have h1:=qgi n
 have hM:=qca
 have hkl:=qda n
 by_cases h0:n.kind = 37
 ·have e:decide (n.kind = 37) = true:=decide_eq_true h0
  rw [outG,e,Bool.true_and] at hl ⊢
  cases hb:qcz n with
  | true =>
    rw [hb] at h1
    rw [orE,hb,if_pos rfl] at hl
    rw [orE,if_pos rfl]
    have hG:ptG n = Lib.join (n.kids.map fun x=>ptD x ++ [59,10]) []:=by rw [qch];rfl
    rw [hG] at hl ⊢
    have hj:=q7 (l:=n.kids) (so:=45) (g:=fun x=>ptD x ++ [59,10]) (m:=[]) (fun x hx=>by
     have e1:=qbf (m:=[]) (List.mem_map_of_mem (f:=fun x=>ptD x ++ [59,10]) hx)
     simp only [List.length_append,List.length_cons,List.length_nil] at e1
     have hp:=qgm ((qib h0 hb).2.2 x hx) (by have:=qbm hx;omega) (by omega)
     unfold PD at hp
     refine qe c0i (by simp) (by simp only [go_sem]) rfl fun hw=>?_
     repeat' (first | refine vs_ ?_ | ((first | refine vr_ ?_ | fail)<;>(try simp only [List.length_append,go_sem,↓reduceIte])) | ((first | (refine cs_ ?_ ?_<;>intro hc) | refine cj_ ?_ | fail | refine qa hp fun _=>?_)<;>(try refine ev_ ?_)) | with_reducible exact ti_)) (by omega) (by omega)
    repeat' (first | refine vs_ ?_ | ((first | refine vr_ ?_ | fail)<;>(try simp only [e,go_sem,↓reduceIte])) | ((first | (refine cs_ ?_ ?_<;>intro hc) | refine cj_ ?_ | fail | refine qa h1 fun _=>?_ | refine qa hj fun _=>?_)<;>(try refine ev_ ?_)) | with_reducible exact ti_)
  | false =>
    rw [hb] at h1
    rw [orE,if_neg Bool.false_ne_true]
    repeat' (first | refine vs_ ?_ | ((first | refine vr_ ?_ | fail)<;>(try simp only [e,go_sem,↓reduceIte])) | ((first | (refine cs_ ?_ ?_<;>intro hc) | refine cj_ ?_ | fail | refine qa h1 fun _=>?_)<;>(try refine ev_ ?_)) | with_reducible exact ti_)
 ·have e:decide (n.kind = 37) = false:=decide_eq_false h0
  rw [outG,e,Bool.false_and,orE,if_neg Bool.false_ne_true]
  repeat' (first | refine vs_ ?_ | ((first | refine vr_ ?_ | fail)<;>(try simp only [e,go_sem,↓reduceIte])) | ((first | (refine cs_ ?_ ?_<;>intro hc) | refine cj_ ?_ | fail | refine qa h1 fun _=>?_)<;>(try refine ev_ ?_)) | with_reducible exact ti_)
set_option maxRecDepth 4000

set_option maxRecDepth 4000

set_option maxRecDepth 4000

set_option maxRecDepth 4000

set_option maxRecDepth 4000

set_option maxRecDepth 4000

end Go.Proofs.YtlmcofjcpadmiaaGreat
