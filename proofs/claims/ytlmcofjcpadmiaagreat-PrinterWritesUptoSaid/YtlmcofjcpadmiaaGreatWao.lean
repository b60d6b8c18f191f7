/- A text of this proof. -/
import Derived.Test.YtlmcofjcpadmiaaGreatWaj
import Derived.Test.YtlmcofjcpadmiaaGreatWam
set_option linter.unusedVariables false
set_option linter.unusedSimpArgs false

/- names -/
set_option maxRecDepth 4000
namespace Go.Proofs.YtlmcofjcpadmiaaGreat
open Go Go.RowKit Go.V

def qfk (c:Int):Bool:=decide (97≤c) && decide (c≤122) || decide (c = 95)
def qfe (c:Int):Bool:=decide (65≤c) && decide (c≤90)
def qlo (c:Int):Bool:=decide (48≤c) && decide (c≤57)

theorem qhw (c:Int):qh Tryz.prog 142 [.int .u8 c] (.bool (qfk c)):=by
 refine qe c0cr (by simp) (by simp only [go_sem]) rfl fun hw=>?_
 repeat' (first | refine vs_ ?_ | ((first | refine vr_ ?_ | (refine cs_ ?_ ?_<;>intro hc) | refine cj_ ?_ | fail)<;>(try refine ev_ ?_)) | with_reducible exact ti_)
 all_goals simp [qfk, *]
theorem qhx (c:Int):qh Tryz.prog 170 [.int .u8 c] (.bool (qfk c)):=by
 refine qe c0cs (by simp) (by simp only [go_sem]) rfl fun hw=>?_
 repeat' (first | refine vs_ ?_ | ((first | refine vr_ ?_ | (refine cs_ ?_ ?_<;>intro hc) | refine cj_ ?_ | fail)<;>(try refine ev_ ?_)) | with_reducible exact ti_)
 all_goals simp [qfk, *]
theorem qir (c:Int):qh Tryz.prog 145 [.int .u8 c] (.bool (qfe c)):=by
 refine qe c0ct (by simp) (by simp only [go_sem]) rfl fun hw=>?_
 repeat' (first | refine vs_ ?_ | ((first | refine vr_ ?_ | (refine cs_ ?_ ?_<;>intro hc) | refine cj_ ?_ | fail)<;>(try refine ev_ ?_)) | with_reducible exact ti_)
 all_goals simp [qfe, *]
theorem qhf (c:Int):qh Tryz.prog 173 [.int .u8 c] (.bool (qfe c)):=by
 refine qe c0cu (by simp) (by simp only [go_sem]) rfl fun hw=>?_
 repeat' (first | refine vs_ ?_ | ((first | refine vr_ ?_ | (refine cs_ ?_ ?_<;>intro hc) | refine cj_ ?_ | fail)<;>(try refine ev_ ?_)) | with_reducible exact ti_)
 all_goals simp [qfe, *]
theorem qnc (c:Int):qh Tryz.prog 210 [.int .u8 c] (.bool (qlo c)):=by
 refine qe c0cv (by simp) (by simp only [go_sem]) rfl fun hw=>?_
 repeat' (first | refine vs_ ?_ | ((first | refine vr_ ?_ | (refine cs_ ?_ ?_<;>intro hc) | refine cj_ ?_ | fail)<;>(try refine ev_ ?_)) | with_reducible exact ti_)
 all_goals simp [qlo, *]
def onW (c:Int):Bool:=qfk c || qfe c || qlo c || decide (c = 39)
theorem qvu (c:Int):qh Tryz.prog 205 [.int .u8 c] (.bool (onW c)):=by
 refine qe c0cw (by simp) (by simp only [go_sem]) rfl fun hw=>?_
 repeat' (first | refine vs_ ?_ | ((first | refine vr_ ?_ | refine qa (qhx _) fun _=>?_ | refine qa (qhf _) fun _=>?_ | refine qa (qnc _) fun _=>?_ | (refine cs_ ?_ ?_<;>intro hc) | refine cj_ ?_ | fail)<;>(try refine ev_ ?_)) | with_reducible exact ti_)
 all_goals simp [onW, *]

def onsW (l:List UInt8):Bool:=l.all fun c=>onW c.toNat
theorem qtb {l:List UInt8} {i:Nat} (h:i < l.length):l.drop i = l.getD i 0 :: l.drop (i + 1):=by
 rw [List.drop_eq_getElem_cons h,List.getD_eq_getElem?_getD,List.getElem?_eq_getElem h];rfl
theorem qen {l:List UInt8} {i:Nat} (h:i < l.length):onsW (l.drop i) = (onW (l.getD i 0).toNat && onsW (l.drop (i + 1))):=by
 rw [qtb h];rfl
theorem qjr (l:List UInt8):qh Tryz.prog 143 [.str l] (.bool (onsW l)):=by
 refine qe c0cx (by simp) (by simp only [go_sem]) rfl fun hw=>?_
 have hl:l.length≤maxLen:=hw.1
 repeat' (first | refine vs_ ?_ | ((first | refine vr_ ?_ | (refine cs_ ?_ ?_<;>intro hc) | refine cj_ ?_ | simp (disch:=omega) only [qb,qf])<;>(try refine ev_ ?_)) | with_reducible exact ti_)
 refine qt (S:=Nat) (fun i=>i≤l.length∧onsW (l.drop i) = onsW l) (fun i=>(⟨[(0,.str l),(6,.int .i64 l.length),(7,.int .i64 i)],[]⟩,[])) (fun i=>l.length - i) ?_ fun i hi=>?_
 ·refine qs 0 [] ⟨Nat.zero_le _,rfl⟩ rfl (by simp) ?_ ?_ ?_<;>(try refine ev_ ?_)<;>(try with_reducible exact ti_)<;>(try simp (disch:=omega) only [qf,and_true,true_and])
 ·obtain ⟨hi,ha⟩:=hi
  repeat' (first | refine vs_ ?_ | ((first | refine vr_ ?_ | refine qa (qhw _) fun _=>?_ | refine qa (qir _) fun _=>?_ | (refine cs_ ?_ ?_<;>intro hc) | refine cj_ ?_ | simp (disch:=omega) only [qb,qf])<;>(try refine ev_ ?_)) | with_reducible exact ti_)
  all_goals first
   | (refine qs (i + 1) [] ⟨⟨by omega, ?_⟩, by omega⟩ rfl (by simp) ?_ ?_ ?_ <;> (try refine ev_ ?_) <;> (try with_reducible exact ti_) <;> (try simp (disch := omega) only [qf, and_true, true_and])
      rw [← ha,qen (l:=l) (i:=i) (by omega)]
      simp_all [onW,qlo]
      try omega)
   | (rw [← ha,show i = l.length by omega,List.drop_length];rfl)
   | (rw [← ha, qen (l := l) (i := i) (by omega)]
      simp_all [onW,qlo]
      try omega)

theorem qn8 (l:List UInt8):qh Tryz.prog 171 [.str l] (.bool (onsW (l.drop 1))):=by
 refine qe c0cy (by simp) (by simp only [go_sem]) rfl fun hw=>?_
 have hl:l.length≤maxLen:=hw.1
 repeat' (first | refine vs_ ?_ | ((first | refine vr_ ?_ | (refine cs_ ?_ ?_<;>intro hc) | refine cj_ ?_ | simp (disch:=omega) only [qb,qf])<;>(try refine ev_ ?_)) | with_reducible exact ti_)
 refine qt (S:=Nat) (fun i=>1≤i∧onsW (l.drop i) = onsW (l.drop 1)) (fun i=>(⟨[(0,.str l),(3,.int .i64 i)],[]⟩,[])) (fun i=>l.length - i) ?_ fun i hi=>?_
 ·refine qs 1 [] ⟨Nat.le_refl _,rfl⟩ rfl (by simp) ?_ ?_ ?_<;>(try refine ev_ ?_)<;>(try with_reducible exact ti_)<;>(try simp (disch:=omega) only [qf,and_true,true_and])
 ·obtain ⟨hi,ha⟩:=hi
  repeat' (first | refine vs_ ?_ | ((first | refine vr_ ?_ | refine qa (qvu _) fun _=>?_ | (refine cs_ ?_ ?_<;>intro hc) | refine cj_ ?_ | simp (disch:=omega) only [qb,qf])<;>(try refine ev_ ?_)) | with_reducible exact ti_)
  ·rw [← ha,qen (l:=l) (i:=i) (by omega),hc];rfl
  ·refine qs (i + 1) [] ⟨⟨by omega,?_⟩,by omega⟩ rfl (by simp) ?_ ?_ ?_<;>(try refine ev_ ?_)<;>(try with_reducible exact ti_)<;>(try simp (disch:=omega) only [qf,and_true,true_and])
   rw [← ha,qen (l:=l) (i:=i) (by omega),hc,Bool.true_and]
  ·rw [← ha,List.drop_of_length_le (by omega)];rfl

def wordsW:List (List UInt8):=[[100,97,116,97],[99,108,97,115,115],[105,110,115,116,97,110,99,101],[119,104,101,114,101],[108,101,116],[105,110],[99,97,115,101],[111,102],[105,102],[116,104,101,110],[101,108,115,101]]
def resW (l:List UInt8):Bool:=wordsW.contains l
theorem qiv (l:List UInt8):qh Tryz.prog 172 [.str l] (.bool (resW l)):=by
 refine qe c0cz (by simp) (by simp only [go_sem]) rfl fun hw=>?_
 repeat' (first | refine vs_ ?_ | ((first | refine vr_ ?_ | (refine cs_ ?_ ?_<;>intro hc) | refine cj_ ?_ | fail)<;>(try refine ev_ ?_)) | with_reducible exact ti_)
 all_goals simp_all [resW,wordsW]
theorem qqs:(wordsW.map AV.str).length = 11:=rfl
theorem qry {i:Nat} (h:i < 11):(wordsW.map AV.str).getD i .junk = .str (wordsW.getD i []):=by
 have h':i < wordsW.length:=h
 rw [List.getD_eq_getElem?_getD,List.getElem?_map,List.getD_eq_getElem?_getD,List.getElem?_eq_getElem h'];rfl
theorem qi7 {i:Nat} (h:i < 11):wordsW.drop i = wordsW.getD i [] :: wordsW.drop (i + 1):=by
 have h':i < wordsW.length:=h
 rw [List.drop_eq_getElem_cons h',List.getD_eq_getElem?_getD,List.getElem?_eq_getElem h'];rfl
theorem qis (l:List UInt8):qh Tryz.prog 144 [.str l] (.bool (resW l)):=by
 refine qe c0da (by simp) (by simp only [go_sem]) rfl fun hw=>?_
 repeat' (first | refine vs_ ?_ | ((first | refine vr_ ?_ | (refine cs_ ?_ ?_<;>intro hc) | refine cj_ ?_ | simp (disch:=omega) only [qb,qf])<;>(try refine ev_ ?_)) | with_reducible exact ti_)
 refine qt (S:=Nat) (fun i=>i≤11∧(wordsW.drop i).contains l = resW l) (fun i=>(⟨[(0,.str l),(3,.bool false),(6,.agg (wordsW.map AV.str)),(7,.int .i64 i)],[]⟩,[])) (fun i=>11 - i) ?_ fun i hi=>?_
 ·refine qs 0 [] ⟨Nat.zero_le _,rfl⟩ rfl (by simp) ?_ ?_ ?_<;>(try refine ev_ ?_)<;>(try with_reducible exact ti_)<;>(try simp (disch:=omega) only [qf,and_true,true_and])
  exact ⟨rfl,rfl⟩
 ·obtain ⟨hi,ha⟩:=hi
  repeat' (first | refine vs_ ?_ | ((first | refine vr_ ?_ | (refine cs_ ?_ ?_<;>intro hc) | refine cj_ ?_ | simp (disch:=omega) only [qb,qf])<;>(try refine ev_ ?_)) | with_reducible exact ti_)
  ·simp (disch:=omega) only [qqs,qry,Nat.mul_one]
   refine ⟨by omega,?_⟩
   repeat' (first | refine vs_ ?_ | ((first | refine vr_ ?_ | (refine cs_ ?_ ?_<;>intro hc) | refine cj_ ?_ | simp (disch:=omega) only [qb,qf])<;>(try refine ev_ ?_)) | with_reducible exact ti_)
   ·refine qs (i + 1) [] ⟨⟨by omega,?_⟩,by omega⟩ rfl (by simp) ?_ ?_ ?_<;>(try refine ev_ ?_)<;>(try with_reducible exact ti_)<;>(try simp (disch:=omega) only [qf,and_true,true_and])
    ·rw [← ha,qi7 (i:=i) (by omega),List.contains_cons]
     rw [show (l == wordsW.getD i []) = false by simpa using fun h=>hc h.symm];simp
    ·have:i < maxLen:=by unfold maxLen;omega
     rw [qf this]
     exact ⟨⟨rfl,rfl⟩,rfl⟩
   ·rw [← ha,qi7 (i:=i) (by omega),List.contains_cons,show (l == wordsW.getD i []) = true by simpa using hc.symm];rfl
  ·rw [← ha,show i = 11 by omega];rfl
def conW (l:List UInt8):Bool:=decide (l≠[]) && qfe (l.getD 0 0).toNat && onsW l
theorem qc0 (l:List UInt8):qh Tryz.prog 91 [.str l] (.bool (conW l)):=by
 refine qe c0db (by simp) (by simp only [go_sem]) rfl fun hw=>?_
 have hl:l.length≤maxLen:=hw.1
 repeat' (first | refine vs_ ?_ | ((first | refine vr_ ?_ | refine qa (qjr _) fun _=>?_ | refine qa (qir _) fun _=>?_ | (refine cs_ ?_ ?_<;>intro hc) | refine cj_ ?_ | simp (disch:=omega) only [qb,qf])<;>(try refine ev_ ?_)) | with_reducible exact ti_)
 all_goals simp_all [conW]
theorem qlz {l:List UInt8} (h:¬ l = []):onsW l = (onW (l.getD 0 0).toNat && onsW (l.drop 1)):=qen (l:=l) (i:=0) (qrd h)
theorem qtw {c:Int} (h:qfe c = true):onW c = true:=by simp [onW,h]
theorem qt9 {c:Int} (h:qfk c = true):onW c = true:=by simp [onW,h]
theorem qcw (l:List UInt8):qh Tryz.prog 115 [.str l] (.bool (conW l)):=by
 refine qe c0dc (by simp) (by simp only [go_sem]) rfl fun hw=>?_
 have hl:l.length≤maxLen:=hw.1
 have hk:conW l = (decide (l≠[]) && qfe (l.getD 0 0).toNat && onsW (l.drop 1)):=by
  by_cases h:l = []
  ·subst h;rfl
  ·rw [conW,qlz h]
   cases hg:qfe (l.getD 0 0).toNat
   ·simp
   ·rw [qtw hg];simp
 rw [hk]
 repeat' (first | refine vs_ ?_ | ((first | refine vr_ ?_ | refine qa (qn8 _) fun _=>?_ | refine qa (qhf _) fun _=>?_ | (refine cs_ ?_ ?_<;>intro hc) | refine cj_ ?_ | simp (disch:=omega) only [qb,qf])<;>(try refine ev_ ?_)) | with_reducible exact ti_)
 all_goals simp_all
def varW (l:List UInt8):Bool:=decide (l≠[]) && decide (l≠[95]) && qfk (l.getD 0 0).toNat && onsW l && !resW l
theorem qd8 (l:List UInt8):qh Tryz.prog 90 [.str l] (.bool (varW l)):=by
 refine qe c0dd (by simp) (by simp only [go_sem]) rfl fun hw=>?_
 have hl:l.length≤maxLen:=hw.1
 repeat' (first | refine vs_ ?_ | ((first | refine vr_ ?_ | refine qa (qjr _) fun _=>?_ | refine qa (qhw _) fun _=>?_ | refine qa (qis _) fun _=>?_ | (refine cs_ ?_ ?_<;>intro hc) | refine cj_ ?_ | simp (disch:=omega) only [qb,qf])<;>(try refine ev_ ?_)) | with_reducible exact ti_)
 all_goals simp_all [varW]
theorem qek (l:List UInt8):qh Tryz.prog 113 [.str l] (.bool (varW l)):=by
 refine qe c0de (by simp) (by simp only [go_sem]) rfl fun hw=>?_
 have hl:l.length≤maxLen:=hw.1
 have hk:varW l = (decide (l≠[]) && decide (l≠[95]) && qfk (l.getD 0 0).toNat && onsW (l.drop 1) && !resW l):=by
  by_cases h:l = []
  ·subst h;rfl
  ·rw [varW,qlz h]
   cases hg:qfk (l.getD 0 0).toNat
   ·simp
   ·rw [qt9 hg];simp
 rw [hk]
 repeat' (first | refine vs_ ?_ | ((first | refine vr_ ?_ | refine qa (qn8 _) fun _=>?_ | refine qa (qhx _) fun _=>?_ | refine qa (qiv _) fun _=>?_ | (refine cs_ ?_ ?_<;>intro hc) | refine cj_ ?_ | simp (disch:=omega) only [qb,qf])<;>(try refine ev_ ?_)) | with_reducible exact ti_)
 all_goals simp_all
end Go.Proofs.YtlmcofjcpadmiaaGreat
