/- Texts of this proof, joined. -/
import Derived.Test.YtlmcofjcpadmiaaGreatWay
import Derived.Test.YtlmcofjcpadmiaaGreatWbf
import Derived.Test.YtlmcofjcpadmiaaGreatWbg
import Derived.Test.YtlmcofjcpadmiaaGreatWax
import Derived.Test.YtlmcofjcpadmiaaGreatWap
set_option linter.unusedVariables false
set_option linter.unusedSimpArgs false

/- declarations that are written are read as they were -/
namespace Go.Proofs.YtlmcofjcpadmiaaGreat
open Go Go.RowKit Go.V


/-! whole texts -/
set_option maxRecDepth 4000

theorem bigZ {B k l:Nat} (hB:B≤1048576) (hk:k≤7000) (h:l + 8≤k * (B + 64)):l + 4≤Big:=by
 have:k * (B + 64)≤7000 * 1048640:=Nat.mul_le_mul hk (by omega)
 unfold Big;omega
theorem qfz {b:Bool} {s:List UInt8} {k:Nat} (hk:8≤k) (h:b = true->s.length + 8≤k):(orE b s).length + 8≤k:=by
 unfold orE
 split
 ·exact h (by assumption)
 ·simpa using hk
theorem szD8 (n:N) (B:Nat):8≤sz n * (B + 64):=by
 have:1 * 64≤sz n * (B + 64):=Nat.mul_le_mul (qz4 n) (by omega)
 omega

/-! Same -/
/-! Apart -/
set_option maxRecDepth 4000

theorem qti {z:Int} (h:0≤z):((z.toNat:Nat):Int) = z:=by omega
theorem qw0 {α:Type} (a b:α):(bif true then a else b) = a:=rfl
theorem qri {α:Type} (a b:α):(bif false then a else b) = b:=rfl
attribute [go_sem] qw0 qri
def clW (n : N) : Bool := conW n.text && !decide (n.num < 0) && !decide ((n.kids.length : Int) ≤ n.num) &&
    (if n.kind = 35 then (n.kids.take n.num.toNat).all prW && vaW (n.kids.getD n.num.toNat N0) && (n.kids.drop (n.num + 1).toNat).all sgW
     else (n.kids.take n.num.toNat).all prW && tyW (n.kids.getD n.num.toNat N0) && (n.kids.drop (n.num + 1).toNat).all biW)
theorem qnp (n:N):qh Tryz.prog 123 [enc n] (.bool (clW n)):=by
 refine qe c0ee (by simp) (by simp only [go_sem]) rfl fun hw=>?_
 have hkl:n.kids.length≤maxLen:=((qb9 n).1 hw.1).1
 repeat' (first | refine vs_ ?_ | ((first | refine vr_ ?_ | fail)<;>(try simp (disch:=first | omega | (simp only [List.length_set,List.length_append,List.length_cons,List.length_nil];done) | (simp only [List.length_set,List.length_append,List.length_cons,List.length_nil];omega)) only [qb,qf0,go_sem,↓reduceIte])) | ((first | (refine cs_ ?_ ?_<;>intro hc) | refine cj_ ?_ | simp (disch:=omega) only [qb,qf] | refine qa (qcw _) fun _=>?_ | refine qa qin fun _=>?_ | refine qa (qbz _) fun _=>?_)<;>(try refine ev_ ?_)) | with_reducible exact ti_)
 ·simp [clW, *]
 ·simp [clW, *]
 ·simp [clW, *]
 ·simp [clW, *]
 ·simp only [clW,vaW, *,decide_true,decide_false,Bool.not_true,Bool.not_false,Bool.true_and,Bool.and_false,Bool.false_and,ite_self]
 ·simp only [clW,vaW, *,decide_true,decide_false,Bool.not_true,Bool.not_false,Bool.true_and,Bool.and_false,Bool.false_and,ite_self];simp
 ·have hR:clW n = (n.kids.drop (n.num + 1).toNat).all sgW:=by simp only [clW,vaW, *,decide_true,decide_false,Bool.not_true,Bool.not_false,Bool.true_and,if_true]
  have hm:0≤n.num∧n.num < (n.kids.length:Int):=by omega
  rw [hR]
  refine qt (S:=Nat) (fun i=>i≤n.kids.length∧(n.kids.drop i).all sgW = (n.kids.drop (n.num + 1).toNat).all sgW) (fun i=>(⟨[(1,.ptr 0 0),(3,.bool true),(4,.int .i64 i)],[]⟩,[.blk (nc n)])) (fun i=>n.kids.length - i) ?_ fun i hi=>?_
  ·refine qs (n.num + 1).toNat [0] ⟨by omega,rfl⟩ rfl (by simp) ?_ ?_ ?_<;>(try refine ev_ ?_)<;>(try with_reducible exact ti_)<;>(try simp (disch:=omega) only [qf,and_true,true_and])
   simp (disch:=omega) only [qti]
  ·obtain ⟨hi,ha⟩:=hi
   repeat' (first | refine vs_ ?_ | ((first | refine vr_ ?_ | refine qa (qh0 _) fun _=>?_ | (refine cs_ ?_ ?_<;>intro hc) | refine cj_ ?_ | simp (disch:=omega) only [qb,qf])<;>(try refine ev_ ?_)) | with_reducible exact ti_)
   ·rw [← ha,qo (by omega),hc];rfl
   ·refine qs (i + 1) [0] ⟨⟨by omega,?_⟩,by omega⟩ rfl (by simp) ?_ ?_ ?_<;>(try refine ev_ ?_)<;>(try with_reducible exact ti_)<;>(try simp (disch:=omega) only [qf,and_true,true_and])
    rw [← ha,qo (l:=n.kids) (i:=i) (by omega),hc,Bool.true_and]
   ·rw [← ha,List.drop_of_length_le (by omega)];rfl
 ·have hR:clW n = (n.kids.drop (n.num + 1).toNat).all biW:=by simp only [clW,vaW, *,decide_true,decide_false,Bool.not_true,Bool.not_false,Bool.true_and,if_false]
  have hm:0≤n.num∧n.num < (n.kids.length:Int):=by omega
  rw [hR]
  refine qt (S:=Nat) (fun i=>i≤n.kids.length∧(n.kids.drop i).all biW = (n.kids.drop (n.num + 1).toNat).all biW) (fun i=>(⟨[(1,.ptr 0 0),(3,.bool false),(4,.int .i64 i)],[]⟩,[.blk (nc n)])) (fun i=>n.kids.length - i) ?_ fun i hi=>?_
  ·refine qs (n.num + 1).toNat [0] ⟨by omega,rfl⟩ rfl (by simp) ?_ ?_ ?_<;>(try refine ev_ ?_)<;>(try with_reducible exact ti_)<;>(try simp (disch:=omega) only [qf,and_true,true_and])
   simp (disch:=omega) only [qti]
  ·obtain ⟨hi,ha⟩:=hi
   repeat' (first | refine vs_ ?_ | ((first | refine vr_ ?_ | refine qa (qdi _).2.1 fun _=>?_ | refine qc (qdi _).2.1 ?_ | (refine cs_ ?_ ?_<;>intro hc) | refine cj_ ?_ | simp (disch:=omega) only [qb,qf])<;>(try refine ev_ ?_)) | with_reducible exact ti_)
   ·rw [← ha,qo (by omega),hc];rfl
   ·refine qs (i + 1) [0] ⟨⟨by omega,?_⟩,by omega⟩ rfl (by simp) ?_ ?_ ?_<;>(try refine ev_ ?_)<;>(try with_reducible exact ti_)<;>(try simp (disch:=omega) only [qf,and_true,true_and])
    rw [← ha,qo (l:=n.kids) (i:=i) (by omega),hc,Bool.true_and]
   ·rw [← ha,List.drop_of_length_le (by omega)];rfl

def daW (n:N):Bool:=conW n.text && !decide (n.num < 0) && !decide ((n.kids.length:Int)≤n.num) && ((n.kids.take n.num.toNat).all vaW && (n.kids.drop n.num.toNat).all cnW)
theorem qo5 (n:N):qh Tryz.prog 122 [enc n] (.bool (daW n)):=by
 refine qe c0ef (by simp) (by simp only [go_sem]) rfl fun hw=>?_
 have hkl:n.kids.length≤maxLen:=((qb9 n).1 hw.1).1
 repeat' (first | refine vs_ ?_ | ((first | refine vr_ ?_ | fail)<;>(try simp (disch:=first | omega | (simp only [List.length_set,List.length_append,List.length_cons,List.length_nil];done) | (simp only [List.length_set,List.length_append,List.length_cons,List.length_nil];omega)) only [qb,qf0,go_sem,↓reduceIte])) | ((first | (refine cs_ ?_ ?_<;>intro hc) | refine cj_ ?_ | simp (disch:=omega) only [qb,qf] | refine qa (qcw _) fun _=>?_)<;>(try refine ev_ ?_)) | with_reducible exact ti_)
 ·simp [daW, *]
 ·simp [daW, *]
 ·simp [daW, *]
 ·have hm:0≤n.num∧n.num < (n.kids.length:Int):=by omega
  have hR:daW n = ((n.kids.take n.num.toNat).all vaW && (n.kids.drop n.num.toNat).all cnW):=by simp only [daW, *,decide_true,decide_false,Bool.not_true,Bool.not_false,Bool.true_and]
  rw [hR]
  refine qt (S:=Nat) (fun i=>i≤n.num.toNat∧((n.kids.take n.num.toNat).drop i).all vaW = (n.kids.take n.num.toNat).all vaW) (fun i=>(⟨[(1,.ptr 0 0),(3,.int .i64 i)],[]⟩,[.blk (nc n)])) (fun i=>n.kids.length - i) ?_ fun i hi=>?_
  ·refine qs 0 [0] ⟨by omega,rfl⟩ rfl (by simp) ?_ ?_ ?_<;>(try refine ev_ ?_)<;>(try with_reducible exact ti_)<;>(try simp (disch:=omega) only [qf,and_true,true_and])
  ·obtain ⟨hi,ha⟩:=hi
   have hs:i < n.num.toNat->(n.kids.take n.num.toNat).all vaW = (vaW (n.kids.getD i N0) && ((n.kids.take n.num.toNat).drop (i + 1)).all vaW):=fun h=>by
    rw [← ha,qol (by omega) h]
   repeat' (first | refine vs_ ?_ | ((first | refine vr_ ?_ | fail)<;>(try simp (disch:=first | omega | (simp only [List.length_set,List.length_append,List.length_cons,List.length_nil];done) | (simp only [List.length_set,List.length_append,List.length_cons,List.length_nil];omega)) only [qb,go_sem,↓reduceIte])) | ((first | (refine cs_ ?_ ?_<;>intro hc) | refine cj_ ?_ | simp (disch:=omega) only [qb,qf] | refine qa (qbz _) fun _=>?_)<;>(try refine ev_ ?_)) | with_reducible exact ti_)
   ·have hx:vaW (n.kids.getD i N0) = false:=by simp only [vaW, *,decide_false,Bool.false_and]
    rw [hs (by omega),hx];rfl
   ·have hx:vaW (n.kids.getD i N0) = false:=by simp only [vaW, *,decide_true,Bool.and_false]
    rw [hs (by omega),hx];rfl
   ·have hx:vaW (n.kids.getD i N0) = true:=by simp only [vaW, *,decide_true,Bool.and_self]
    refine qs (i + 1) [0] ⟨⟨by omega,?_⟩,by omega⟩ rfl (by simp) ?_ ?_ ?_<;>(try refine ev_ ?_)<;>(try with_reducible exact ti_)<;>(try simp (disch:=omega) only [qf,and_true,true_and])
    rw [hs (by omega),hx,Bool.true_and]
   ·have hx:(n.kids.take n.num.toNat).all vaW = true:=by rw [← ha,List.drop_of_length_le (by rw [List.length_take];omega)];rfl
    rw [hx,Bool.true_and]
    refine qt (S:=Nat) (fun i=>i≤n.kids.length∧(n.kids.drop i).all cnW = (n.kids.drop n.num.toNat).all cnW) (fun i=>(⟨[(1,.ptr 0 0),(4,.int .i64 i)],[]⟩,[.blk (nc n)])) (fun i=>n.kids.length - i) ?_ fun i hi=>?_
    ·refine qs n.num.toNat [0] ⟨by omega,rfl⟩ rfl (by simp) ?_ ?_ ?_<;>(try refine ev_ ?_)<;>(try with_reducible exact ti_)<;>(try simp (disch:=omega) only [qf,and_true,true_and])
     simp (disch:=omega) only [qti]
    ·obtain ⟨hi,ha⟩:=hi
     repeat' (first | refine vs_ ?_ | ((first | refine vr_ ?_ | fail)<;>(try simp (disch:=first | omega | (simp only [List.length_set,List.length_append,List.length_cons,List.length_nil];done) | (simp only [List.length_set,List.length_append,List.length_cons,List.length_nil];omega)) only [qb,go_sem,↓reduceIte])) | ((first | (refine cs_ ?_ ?_<;>intro hc) | refine cj_ ?_ | simp (disch:=omega) only [qb,qf] | refine qa (qcw _) fun _=>?_ | refine qa (qhm fun x _=>qbz x) fun _=>?_)<;>(try refine ev_ ?_)) | with_reducible exact ti_)
     all_goals first
      | (refine qs (i + 1) [0] ⟨⟨by omega, ?_⟩, by omega⟩ rfl (by simp) ?_ ?_ ?_ <;> (try refine ev_ ?_) <;> (try with_reducible exact ti_) <;> (try simp (disch := omega) only [qf, and_true, true_and])
         have hx:cnW (n.kids.getD i N0) = true:=by simp only [cnW,qcn, *,decide_true,Bool.and_self]
         rw [← ha,qo (l:=n.kids) (i:=i) (by omega),hx,Bool.true_and])
      | (have hx : cnW (n.kids.getD i N0) = false := by simp only [cnW, qcn, *, decide_true, decide_false, Bool.false_and, Bool.and_false]
         rw [← ha,qo (l:=n.kids) (i:=i) (by omega),hx];rfl)
      | (rw [← ha,List.drop_of_length_le (by omega)];rfl)
set_option maxRecDepth 4000

def deR (n:N):Bool:=if n.kind = 31 then biW n else if n.kind = 32 then sgW n else if n.kind = 33 then daW n else if n.kind = 35∨n.kind = 36 then clW n else false
theorem qbj3 (n:N):deR n = deW n:=by
 unfold deR deW
 refine ite_congr rfl (fun _=>rfl) fun h1=>ite_congr rfl (fun _=>rfl) fun h2=>?_
 by_cases hb:(conW n.text && !decide (n.num < 0) && !decide ((n.kids.length:Int)≤n.num)) = true
 ·have hm:0≤n.num∧n.num < (n.kids.length:Int):=by
   simp only [Bool.and_eq_true,qjw,decide_eq_false_iff_not] at hb;omega
  rw [hb,Bool.true_and]
  by_cases h3:n.kind = 33
  ·rw [if_pos h3,if_pos h3,daW,hb,Bool.true_and,qo (l:=n.kids) (i:=n.num.toNat) (by omega),show n.num.toNat + 1 = (n.num + 1).toNat by omega,Bool.and_assoc]
  ·rw [if_neg h3,if_neg h3]
   by_cases h5:n.kind = 35
   ·rw [if_pos (.inl h5),if_pos h5,clW,hb,Bool.true_and,if_pos h5]
   ·rw [if_neg h5]
    by_cases h6:n.kind = 36
    ·rw [if_pos (.inr h6),if_pos h6,clW,hb,Bool.true_and,if_neg h5]
    ·rw [if_neg (by simp [h5,h6]),if_neg h6]
 ·simp only [Bool.not_eq_true] at hb
  rw [hb,Bool.false_and]
  repeat' split
  ·rw [daW,hb,Bool.false_and]
  ·rw [clW,hb,Bool.false_and]
  ·rfl
theorem qgq (n:N):qh Tryz.prog 75 [enc n] (.bool (deW n)):=by
 refine qe c0dz (by simp) (by simp only [go_sem]) rfl fun hw=>?_
 rw [← qbj3]
 repeat' (first | refine vs_ ?_ | ((first | refine vr_ ?_ | refine qa (qdi _).2.1 fun _=>?_ | refine qa (qh0 _) fun _=>?_ | refine qa (qo5 _) fun _=>?_ | refine qa (qnp _) fun _=>?_ | refine qc (qdi _).2.1 ?_ | (refine cs_ ?_ ?_<;>intro hc) | refine cj_ ?_ | fail)<;>(try refine ev_ ?_)) | with_reducible exact ti_)
 all_goals clear hw
 all_goals first | (simp only [deR, *,decide_true,decide_false,Bool.and_true,Bool.true_and,Bool.and_false,Bool.false_and,Bool.or_true,Bool.true_or,Bool.or_false,Bool.false_or,Bool.not_true,Bool.not_false,if_true,if_false,reduceIte,Int.reduceEq];done) | (simp_all [deR];done) | (simp_all [deR];omega)
theorem qpy (n:N):qh Tryz.prog 34 [enc n] (.bool (tyW n && decide (depR n≤100))):=by
 refine qe c0ea (by simp) (by simp only [go_sem]) rfl fun hw=>?_
 repeat' (first | refine vs_ ?_ | ((first | refine vr_ ?_ | refine qa (qej _) fun _=>?_ | refine qa (qbz _) fun _=>?_ | (refine cs_ ?_ ?_<;>intro hc) | refine cj_ ?_ | fail)<;>(try refine ev_ ?_)) | with_reducible exact ti_)
 all_goals first | (simp only [*,decide_true,decide_false,Bool.and_true,Bool.true_and,Bool.and_false,Bool.false_and,Bool.or_true,Bool.true_or,Bool.or_false,Bool.false_or,Bool.not_true,Bool.not_false,if_true,if_false,reduceIte,Int.reduceEq];done) | (simp_all [];done) | (simp_all [];omega)
theorem qrq (n:N):qh Tryz.prog 39 [enc n] (.bool (paW n && decide (depR n≤100))):=by
 refine qe c0eb (by simp) (by simp only [go_sem]) rfl fun hw=>?_
 repeat' (first | refine vs_ ?_ | ((first | refine vr_ ?_ | refine qa (qej _) fun _=>?_ | refine qa (qig _) fun _=>?_ | (refine cs_ ?_ ?_<;>intro hc) | refine cj_ ?_ | fail)<;>(try refine ev_ ?_)) | with_reducible exact ti_)
 all_goals first | (simp only [*,decide_true,decide_false,Bool.and_true,Bool.true_and,Bool.and_false,Bool.false_and,Bool.or_true,Bool.true_or,Bool.or_false,Bool.false_or,Bool.not_true,Bool.not_false,if_true,if_false,reduceIte,Int.reduceEq];done) | (simp_all [];done) | (simp_all [];omega)
theorem qqy (n:N):qh Tryz.prog 41 [enc n] (.bool (exW n && decide (depR n≤100))):=by
 refine qe c0ec (by simp) (by simp only [go_sem]) rfl fun hw=>?_
 repeat' (first | refine vs_ ?_ | ((first | refine vr_ ?_ | refine qa (qej _) fun _=>?_ | refine qa (qdi _).1 fun _=>?_ | refine qc (qdi _).1 ?_ | (refine cs_ ?_ ?_<;>intro hc) | refine cj_ ?_ | fail)<;>(try refine ev_ ?_)) | with_reducible exact ti_)
 all_goals first | (simp only [*,decide_true,decide_false,Bool.and_true,Bool.true_and,Bool.and_false,Bool.false_and,Bool.or_true,Bool.true_or,Bool.or_false,Bool.false_or,Bool.not_true,Bool.not_false,if_true,if_false,reduceIte,Int.reduceEq];done) | (simp_all [];done) | (simp_all [];omega)
def qmq (n:N):Bool:=if n.kind = 37 then n.kids.all deW && (decide (n.text = []) && decide (n.num = 0) && decide (depR n≤100)) else deW n && decide (depR n≤100)
theorem qgg (n:N):qh Tryz.prog 37 [enc n] (.bool (qmq n)):=by
 refine qe c0ed (by simp) (by simp only [go_sem]) rfl fun hw=>?_
 have hkl:n.kids.length≤maxLen:=((qb9 n).1 hw.1).1
 repeat' (first | refine vs_ ?_ | ((first | refine vr_ ?_ | refine qa (qej _) fun _=>?_ | refine qa (qgq _) fun _=>?_ | (refine cs_ ?_ ?_<;>intro hc) | refine cj_ ?_ | simp (disch:=omega) only [qb,qf])<;>(try refine ev_ ?_)) | with_reducible exact ti_)
 ·simp only [qmq, *,decide_true,Bool.true_and,if_false]
 ·simp only [qmq, *,Bool.false_and,if_false]
 ·have hR:qmq n = (n.kids.all deW && (decide (n.text = []) && decide (n.num = 0) && decide (depR n≤100))):=by simp only [qmq, *,if_true]
  rw [hR]
  refine qt (S:=Nat) (fun i=>i≤n.kids.length∧(n.kids.drop i).all deW = n.kids.all deW) (fun i=>(⟨[(1,.ptr 0 0),(3,.int .i64 i)],[]⟩,[.blk (nc n)])) (fun i=>n.kids.length - i) ?_ fun i hi=>?_
  ·refine qs 0 [0] ⟨Nat.zero_le _,rfl⟩ rfl (by simp) ?_ ?_ ?_<;>(try refine ev_ ?_)<;>(try with_reducible exact ti_)<;>(try simp (disch:=omega) only [qf,and_true,true_and])
  ·obtain ⟨hi,ha⟩:=hi
   repeat' (first | refine vs_ ?_ | ((first | refine vr_ ?_ | refine qa (qej _) fun _=>?_ | refine qa (qgq _) fun _=>?_ | (refine cs_ ?_ ?_<;>intro hc) | refine cj_ ?_ | simp (disch:=omega) only [qb,qf])<;>(try refine ev_ ?_)) | with_reducible exact ti_)
   all_goals first
    | (refine qs (i + 1) [0] ⟨⟨by omega, ?_⟩, by omega⟩ rfl (by simp) ?_ ?_ ?_ <;> (try refine ev_ ?_) <;> (try with_reducible exact ti_) <;> (try simp (disch := omega) only [qf, and_true, true_and])
       rw [← ha,qo (l:=n.kids) (i:=i) (by omega),hc,Bool.true_and])
    | (have hx : n.kids.all deW = false := by rw [← ha, qo (by omega), hc]; rfl
       rw [hx,Bool.false_and])
    | (have hx : n.kids.all deW = true := by rw [← ha, List.drop_of_length_le (by omega)]; rfl
       simp only [hx, *,decide_true,decide_false,Bool.true_and,Bool.false_and,Bool.and_false])

end Go.Proofs.YtlmcofjcpadmiaaGreat
