/- Texts of this proof, joined. -/
import Derived.Test.YtgglaabljlhliaaGreatLap
import Derived.Test.YtgglaabljlhliaaGreatLbi
import Derived.Test.YtgglaabljlhliaaGreatLbj
import Derived.Test.YtgglaabljlhliaaGreatLaw
import Derived.Test.YtgglaabljlhliaaGreatLak
set_option linter.unusedVariables false
set_option linter.unusedSimpArgs false

/- classes: at, known -/
set_option maxRecDepth 4000
namespace Go.Proofs.YtgglaabljlhliaaGreat
open Go Go.RowKit Go.V

def idxT (x:List UInt8):List (List UInt8)->Nat->Int
 | [],_=>-1
 | y :: r,i=>if x = y then i else idxT x r (i + 1)
theorem q5c (ls:List (List UInt8)) (x:List UInt8):qk Tryz.prog 132 [.sl 1 (ls.map AV.str),.str x] (.int .i64 (idxT x ls 0)):=by
 refine qd c0l (by simp) (by simp only [go_sem]) rfl fun hw=>?_
 have h1:ls.length≤maxLen:=by have:=hw.1.1;rwa [qxf] at this
 repeat' (first | refine vs_ ?_ | ((first | refine vr_ ?_ | (refine cs_ ?_ ?_<;>intro hc) | refine cj_ ?_ | simp (disch:=omega) only [encs_getN,qb])<;>(try refine ev_ ?_)) | with_reducible exact ti_)
 refine qj (S:=Nat) (fun i=>i≤ls.length∧idxT x ls 0 = idxT x (ls.drop i) i) (fun i=>(⟨[(0,.sl 1 (ls.map AV.str)),(1,.str x),(7,.int .i64 ls.length),(8,.int .i64 i)],[]⟩,[])) (fun i=>ls.length - i) ?_ fun i hi=>?_
 ·refine qf 0 [] ⟨Nat.zero_le _,rfl⟩ rfl (by simp) ?_ ?_ ?_<;>(try refine ev_ ?_)<;>(try with_reducible exact ti_)<;>(try simp (disch:=omega) only [qb,and_true,true_and])
 ·obtain ⟨hi,ha⟩:=hi
  repeat' (first | refine vs_ ?_ | ((first | refine vr_ ?_ | simp (disch:=omega) only [qch] | (refine cs_ ?_ ?_<;>intro hc) | refine cj_ ?_ | simp (disch:=omega) only [encs_getN,qb])<;>(try refine ev_ ?_)) | with_reducible exact ti_)
  ·rw [ha,qqm (i:=i) (by omega),idxT,if_pos hc]
  ·refine qf (i + 1) [] ⟨⟨by omega,?_⟩,by omega⟩ rfl (by simp) ?_ ?_ ?_<;>(try refine ev_ ?_)<;>(try with_reducible exact ti_)<;>(try simp (disch:=omega) only [qb,and_true,true_and])
   rw [ha,qqm (i:=i) (by omega),idxT,if_neg hc]
  ·rw [ha,List.drop_of_length_le (by omega)];rfl
theorem qvm (x:List UInt8):∀ (ls:List (List UInt8)) (i:Nat),decide (0≤idxT x ls i) = ls.contains x
 | [],i=>rfl
 | y :: r, i => by
   rw [idxT,List.contains_cons]
   split
   ·rename_i h;simp [h]
   ·rename_i h;rw [qvm x r (i + 1),beq_eq_false_iff_ne.2 h,Bool.false_or]
theorem qqz (ls:List (List UInt8)) (x:List UInt8):qk Tryz.prog 106 [.sl 1 (ls.map AV.str),.str x] (.bool (ls.contains x)):=by
 refine qd c0m (by simp) (by simp only [go_sem]) rfl fun hw=>?_
 repeat' (first | refine vs_ ?_ | ((first | refine vr_ ?_ | refine qa (q5c ls x) fun _=>?_ | (refine cs_ ?_ ?_<;>intro hc) | refine cj_ ?_ | fail)<;>(try refine ev_ ?_)) | with_reducible exact ti_)
 rw [← qvm x ls 0]
theorem qez (l:List Cls) (s:List UInt8):qk Tryz.prog 71 [.sl 3 (qbs l),.str s] (.int .i64 (atC s l 0)):=by
 refine qd c0n (by simp) (by simp only [go_sem]) rfl fun hw=>?_
 have hl:=(qgu hw.1).1
 repeat' (first | refine vs_ ?_ | ((first | refine vr_ ?_ | (refine cs_ ?_ ?_<;>intro hc) | refine cj_ ?_ | simp (disch:=omega) only [encs_getN,qb])<;>(try refine ev_ ?_)) | with_reducible exact ti_)
 refine qj (S:=Nat) (fun i=>i≤l.length∧atC s (l.drop i) i = atC s l 0) (fun i=>(⟨[(0,.sl 3 (qbs l)),(1,.str s),(7,.int .i64 l.length),(8,.int .i64 i)],[]⟩,[])) (fun i=>l.length - i) ?_ fun i hi=>?_
 ·refine qf 0 [] ⟨Nat.zero_le _,rfl⟩ rfl (by simp) ?_ ?_ ?_<;>(try refine ev_ ?_)<;>(try with_reducible exact ti_)<;>(try simp (disch:=omega) only [qb,and_true,true_and])
 ·obtain ⟨hi,ha⟩:=hi
  by_cases hlt:i < l.length
  ·have hg:=qd7 hlt
   rw [q9e hlt] at ha
   repeat' (first | refine vs_ ?_ | ((first | refine vr_ ?_ | fail)<;>(try simp (disch:=first | omega | (simp only [List.length_set,List.length_append,List.length_cons,List.length_nil];done) | (simp only [List.length_set,List.length_append,List.length_cons,List.length_nil];omega)) only [hg,qb,go_sem,↓reduceIte])) | ((first | simp (disch:=omega) only [hg] | (refine cs_ ?_ ?_<;>intro hc) | refine cj_ ?_ | simp (disch:=omega) only [encs_getN,qb])<;>(try refine ev_ ?_)) | with_reducible exact ti_)
   all_goals try (exfalso;omega)
   ·rw [if_pos (by assumption)] at ha
    rw [← ha]
   ·rw [if_neg (by assumption)] at ha
    refine qf (i + 1) [] ⟨⟨by omega,ha⟩,by omega⟩ rfl (by simp) ?_ ?_ ?_<;>(try refine ev_ ?_)<;>(try with_reducible exact ti_)<;>(try simp (disch:=omega) only [qb,and_true,true_and])
  ·rw [qbkp (by omega)] at ha
   repeat' (first | refine vs_ ?_ | ((first | refine vr_ ?_ | (refine cs_ ?_ ?_<;>intro hc) | refine cj_ ?_ | simp (disch:=omega) only [encs_getN,qb])<;>(try refine ev_ ?_)) | with_reducible exact ti_)
   all_goals first | (exfalso;omega) | (rw [← ha])
theorem q67 {l:List Cls} {ls:List (List UInt8)} {i:Nat} (h:i < ls.length):knC l (ls.take i) (ls.drop i) = if atC (ls.getD i []) l 0 < 0 then false else if (ls.take i).contains (ls.getD i []) then false else knC l (ls.take (i + 1)) (ls.drop (i + 1)):=by
 have h1:ls.drop i = ls.getD i [] :: ls.drop (i + 1):=by rw [List.drop_eq_getElem_cons h,List.getD_eq_getElem?_getD,List.getElem?_eq_getElem h];rfl
 have h2:ls.take (i + 1) = ls.take i ++ [ls.getD i []]:=by rw [List.take_add_one,List.getElem?_eq_getElem h,List.getD_eq_getElem?_getD,List.getElem?_eq_getElem h];rfl
 rw [h1,knC,h2]
theorem q3z (n:Nat) (l:List (List UInt8)):(l.map AV.str).take n = (l.take n).map AV.str:=by rw [List.map_take]
theorem qq3 (l:List Cls) (c:Cls):qk Tryz.prog 78 [.sl 3 (qbs l),encC c] (.bool (knC l [] c.sup)):=by
 refine qd c0o (by simp) (by simp only [go_sem]) rfl fun hw=>?_
 have hl:=(qgu hw.1).1
 have hsl:=(qbtn hw.2.1).2.2
 repeat' (first | refine vs_ ?_ | ((first | refine vr_ ?_ | (refine cs_ ?_ ?_<;>intro hc) | refine cj_ ?_ | simp (disch:=omega) only [encs_getN,qb])<;>(try refine ev_ ?_)) | with_reducible exact ti_)
 refine qj (S:=Nat) (fun i=>i≤c.sup.length∧knC l (c.sup.take i) (c.sup.drop i) = knC l [] c.sup) (fun i=>(⟨[(0,.sl 3 (qbs l)),(3,.ptr 0 0),(8,.sl 1 (c.sup.map AV.str)),(9,.int .i64 c.sup.length),(10,.int .i64 i)],[]⟩,[.blk (cdc c)])) (fun i=>c.sup.length - i) ?_ fun i hi=>?_
 ·refine qf 0 [0] ⟨Nat.zero_le _,rfl⟩ rfl (by simp) ?_ ?_ ?_<;>(try refine ev_ ?_)<;>(try with_reducible exact ti_)<;>(try simp (disch:=omega) only [qb,and_true,true_and])
 ·obtain ⟨hi,ha⟩:=hi
  by_cases hlt:i < c.sup.length
  ·rw [q67 hlt] at ha
   have hat:=qez l (c.sup.getD i [])
   have hco:=qqz (c.sup.take i) (c.sup.getD i [])
   rw [← q3z] at hco
   generalize atC (c.sup.getD i []) l 0 = x at *
   generalize (c.sup.take i).contains (c.sup.getD i []) = y at *
   by_cases hx:x < 0
   ·rw [if_pos hx] at ha
    repeat' (first | refine vs_ ?_ | ((first | refine vr_ ?_ | fail)<;>(try simp (disch:=first | omega | (simp only [List.length_set,List.length_append,List.length_cons,List.length_nil];done) | (simp only [List.length_set,List.length_append,List.length_cons,List.length_nil];omega)) only [qb,hx,go_sem,↓reduceIte])) | ((first | simp (disch:=omega) only [qch] | (refine cs_ ?_ ?_<;>intro hc) | refine cj_ ?_ | simp (disch:=omega) only [encs_getN,qb] | refine qa hat fun _=>?_ | refine qa hco fun _=>?_)<;>(try refine ev_ ?_)) | with_reducible exact ti_)
    all_goals first | (exfalso;omega) | rw [← ha]
   ·rw [if_neg hx] at ha
    cases y
    ·repeat' (first | refine vs_ ?_ | ((first | refine vr_ ?_ | fail)<;>(try simp (disch:=first | omega | (simp only [List.length_set,List.length_append,List.length_cons,List.length_nil];done) | (simp only [List.length_set,List.length_append,List.length_cons,List.length_nil];omega)) only [qb,hx,go_sem,↓reduceIte])) | ((first | simp (disch:=omega) only [qch] | (refine cs_ ?_ ?_<;>intro hc) | refine cj_ ?_ | simp (disch:=omega) only [encs_getN,qb] | refine qa hat fun _=>?_ | refine qa hco fun _=>?_)<;>(try refine ev_ ?_)) | with_reducible exact ti_)
     all_goals try (exfalso;omega)
     refine qf (i + 1) [0] ⟨⟨by omega,by rw [← ha];rfl⟩,by omega⟩ rfl (by simp) ?_ ?_ ?_<;>(try refine ev_ ?_)<;>(try with_reducible exact ti_)<;>(try simp (disch:=omega) only [qb,and_true,true_and])
    ·repeat' (first | refine vs_ ?_ | ((first | refine vr_ ?_ | fail)<;>(try simp (disch:=first | omega | (simp only [List.length_set,List.length_append,List.length_cons,List.length_nil];done) | (simp only [List.length_set,List.length_append,List.length_cons,List.length_nil];omega)) only [qb,hx,go_sem,↓reduceIte])) | ((first | simp (disch:=omega) only [qch] | (refine cs_ ?_ ?_<;>intro hc) | refine cj_ ?_ | simp (disch:=omega) only [encs_getN,qb] | refine qa hat fun _=>?_ | refine qa hco fun _=>?_)<;>(try refine ev_ ?_)) | with_reducible exact ti_)
     all_goals first | (exfalso;omega) | (rw [← ha];rfl)
  ·rw [List.take_of_length_le (by omega),List.drop_of_length_le (by omega),knC] at ha
   repeat' (first | refine vs_ ?_ | ((first | refine vr_ ?_ | (refine cs_ ?_ ?_<;>intro hc) | refine cj_ ?_ | simp (disch:=omega) only [encs_getN,qb])<;>(try refine ev_ ?_)) | with_reducible exact ti_)
   all_goals first | (exfalso;omega) | (rw [← ha])
set_option maxRecDepth 4000

def edA (p:Int×Int):AV:=.agg [.int .i64 p.1,.int .i64 p.2]
def eds (l:List (Int×Int)):List AV:=l.map edA
theorem qbdn (k:Nat) (p:Int×Int):(edA p).bd k = true:=rfl
theorem q85 (a b:Int):AV.agg [.int .i64 a,.int .i64 b] = edA (a,b):=rfl
theorem q3s (p:Int×Int):(edA p).cells = [.int .i64 p.1,.int .i64 p.2]:=rfl
theorem qhe (l:List (Int×Int)):(eds l).length = l.length:=by simp [eds]
theorem qrw (k:Nat) (l:List (Int×Int)):AV.bds k (eds l) = true:=by rw [eds,qb9,List.all_map,List.all_eq_true];exact fun x _=>qbdn k x
theorem qon (σ:Nat->Nat) (l:List (Int×Int)):AV.rens σ (eds l) = eds l:=ql (m:=0) (fun i hi=>by omega) _ (qrw 0 l)
theorem qbnn (σ:Nat->Nat) (p:Int×Int):(edA p).ren σ = edA p:=rfl
theorem qvl (l:List (Int×Int)) (p:Int×Int):eds l ++ [edA p] = eds (l ++ [p]):=by simp [eds]
theorem qjb:eds [] = []:=rfl
theorem qbmi (p:Int×Int):[edA p] = eds [p]:=rfl
theorem qg8 {l:List (Int×Int)} (h:l≠[]):eds l≠[]:=by cases l with | nil=>exact absurd rfl h | cons _ _=>simp [eds]
theorem q4v {l:List (Int×Int)} {i:Nat} (h:i < l.length):(eds l).getD i .junk = edA (l.getD i (0,0)):=by
 rw [eds,List.getD_eq_getElem?_getD,List.getElem?_map,List.getElem?_eq_getElem h,List.getD_eq_getElem?_getD,List.getElem?_eq_getElem h];rfl
theorem qbq6 (b:Bool) (n off:Nat) (p:Int×Int):fldv b n off (edA p) = ldc b n off [.int .i64 p.1,.int .i64 p.2]:=rfl
theorem qbw9 (p:Int×Int):(edA p).isAgg = true:=rfl
theorem qu5 (p:Int×Int):(edA p).leaf = false:=rfl
attribute [go_sem] qbdn q85 q3s qhe qrw qon qbnn qbq6 qbw9 qu5
def fewC (l:List Cls):Prop:=l.length≤9∧∀ c∈l,c.sup.length≤9
def edJ (l:List Cls) (i j:Nat):List (Int×Int):=edC l (l.take i) 0 ++ ((l.getD i C0).sup.take j).map fun s=>((i:Int),atC s l 0)
theorem qtc (l:List Cls):∀ (r:List Cls) (i:Nat),(∀ c∈r,c.sup.length≤9)->(edC l r i).length≤9 * r.length
 | [],i,h=>by simp [edC]
 | c :: r, i, h => by
   have h1:=h c (by simp)
   have h2:=qtc l r (i + 1) fun x hx=>h x (by simp [hx])
   rw [edC,List.length_append,List.length_map,List.length_cons];omega
theorem qwd (l:List Cls):∀ (r:List Cls) (c:Cls) (i:Nat),edC l (r ++ [c]) i = edC l r i ++ c.sup.map fun s=>(((i + r.length:Nat):Int),atC s l 0)
 | [],c,i=>by simp [edC]
 | x :: r, c, i => by
   rw [List.cons_append,edC,edC,qwd l r c (i + 1),List.append_assoc,List.length_cons,show i + 1 + r.length = i + (r.length + 1) by omega]
theorem qb7e {l:List Cls} {i:Nat} (h:i < l.length):l.take (i + 1) = l.take i ++ [l.getD i C0]:=by
 rw [List.take_add_one,List.getElem?_eq_getElem h,List.getD_eq_getElem?_getD,List.getElem?_eq_getElem h];rfl
theorem qbmk (l:List Cls) (i:Nat):edJ l i 0 = edC l (l.take i) 0:=by simp [edJ]
theorem qbf4 {l:List Cls} {i j:Nat} (h:i < l.length) (hj:(l.getD i C0).sup.length≤j):edJ l i j = edJ l (i + 1) 0:=by
 rw [qbmk,qb7e h,qwd,edJ,List.take_of_length_le hj,List.length_take,Nat.min_eq_left (Nat.le_of_lt h),Nat.zero_add]
theorem qbb5 {l:List Cls} {i j:Nat} (hj:j < (l.getD i C0).sup.length):edJ l i (j + 1) = edJ l i j ++ [((i:Int),atC ((l.getD i C0).sup.getD j []) l 0)]:=by
 have h1:(l.getD i C0).sup.take (j + 1) = (l.getD i C0).sup.take j ++ [(l.getD i C0).sup.getD j []]:=by
  rw [List.take_add_one,List.getElem?_eq_getElem hj,List.getD_eq_getElem?_getD (l:=(l.getD i C0).sup),List.getElem?_eq_getElem hj];rfl
 rw [edJ,edJ,h1,List.map_append,List.append_assoc];rfl
theorem qbks {l:List Cls} (hf:fewC l) {i:Nat} (j:Nat) (h:i < l.length):(edJ l i j).length≤90:=by
 have h1:=qtc l (l.take i) 0 fun c hc=>hf.2 c (List.mem_of_mem_take hc)
 have h2:=hf.2 _ (qj2 h)
 have h3:=hf.1
 rw [List.length_take] at h1
 rw [edJ,List.length_append,List.length_map,List.length_take];omega
theorem capE {n:Nat} (h:n≤1000):qbb n 16:=by unfold qbb;omega
def edSt (l:List Cls) (i:Nat):AF×List Ent:=(⟨[(0,.sl 3 (qbs l)),(3,accV 0 (eds (edJ l i 0))),(8,.int .i64 l.length),(9,.int .i64 i)],[]⟩,accE 2 (eds (edJ l i 0)))
def qzg (l:List Cls) (i j:Nat):AF×List Ent:=(⟨[(0,.sl 3 (qbs l)),(3,accV 0 (eds (edJ l i j))),(4,.int .i64 i),(8,.int .i64 l.length),(9,.int .i64 i),(16,.sl 1 ((l.getD i C0).sup.map AV.str)),(17,.int .i64 (l.getD i C0).sup.length),(18,.int .i64 j)],[]⟩,accE 2 (eds (edJ l i j)))
set_option maxHeartbeats 1000000 in
theorem qrk {l:List Cls} (hf:fewC l):qk Tryz.prog 79 [.sl 3 (qbs l)] (.sl 2 (eds (edC l l 0))):=by
 refine qd c0k (by simp) (by simp only [go_sem]) (by simp only [go_sem]) fun hw=>?_
 have hl:l.length≤maxLen:=(qgu hw.1).1
 repeat' (first | refine vs_ ?_ | ((first | refine vr_ ?_ | (refine cs_ ?_ ?_<;>intro hc) | refine cj_ ?_ | simp (disch:=omega) only [encs_getN,qb])<;>(try refine ev_ ?_)) | with_reducible exact ti_)
 refine qj (S:=Nat) (fun i=>i≤l.length) (edSt l) (fun i=>l.length - i) ?_ fun i hi=>?_
 ·refine qf 0 [] (Nat.zero_le _) rfl (by simp) ?_ ?_ ?_<;>(try (have h0:edJ l 0 0 = []:=(by simp [edJ,edC])))<;>simp only [edSt,qbmk,List.take_zero,edC,qjb,qo,qn]<;>(try refine ev_ ?_)<;>(try with_reducible exact ti_)<;>(try simp (disch:=omega) only [qb,and_true,true_and])
 ·unfold edSt
  by_cases hlt:i < l.length
  ·have hg:=qd7 hlt
   have hsl:=hf.2 _ (qj2 hlt)
   have hsm:(l.getD i C0).sup.length≤maxLen:=by unfold maxLen;omega
   repeat' (first | refine vs_ ?_ | ((first | refine vr_ ?_ | fail)<;>(try simp (disch:=first | omega | (simp only [List.length_set,List.length_append,List.length_cons,List.length_nil];done) | (simp only [List.length_set,List.length_append,List.length_cons,List.length_nil];omega)) only [hg,qb,go_sem,↓reduceIte])) | ((first | simp (disch:=omega) only [hg] | (refine cs_ ?_ ?_<;>intro hc) | refine cj_ ?_ | simp (disch:=omega) only [encs_getN,qb])<;>(try refine ev_ ?_)) | with_reducible exact ti_)
   all_goals try (exfalso;omega)
   refine qj (S:=Nat) (fun j=>j≤(l.getD i C0).sup.length) (qzg l i) (fun j=>(l.getD i C0).sup.length - j) ?_ fun j hj=>?_
   ·by_cases h0:edJ l i 0 = []
    ·refine qf 0 [] (Nat.zero_le _) rfl (by simp) ?_ ?_ ?_<;>simp only [qzg,h0,qjb,qo,qn]<;>(try refine ev_ ?_)<;>(try with_reducible exact ti_)<;>(try simp (disch:=omega) only [qb,and_true,true_and])
    ·refine qf 0 [0] (Nat.zero_le _) rfl (by simp) ?_ ?_ ?_<;>simp only [qzg,qu (qg8 h0),qv (qg8 h0)]<;>(try refine ev_ ?_)<;>(try with_reducible exact ti_)<;>(try simp (disch:=omega) only [qb,and_true,true_and])
   ·have hat:=qez l ((l.getD i C0).sup.getD j [])
    unfold qzg
    by_cases hjl:j < (l.getD i C0).sup.length
    ·have hs:=qbb5 hjl
     have hcap1:qbb 1 16:=capE (by omega)
     have hcap:qbb ((edJ l i j).length + 1) 16:=capE (by have:=qbks hf j hlt;omega)
     generalize atC ((l.getD i C0).sup.getD j []) l 0 = x at *
     by_cases h0:edJ l i j = []
     ·rw [h0,List.nil_append] at hs
      simp only [h0,qjb,qo,qn]
      repeat' (first | refine vs_ ?_ | ((first | refine vr_ ?_ | fail)<;>(try simp (disch:=first | omega | (simp only [List.length_set,List.length_append,List.length_cons,List.length_nil];done) | (simp only [List.length_set,List.length_append,List.length_cons,List.length_nil];omega)) only [qb,q7,go_sem,↓reduceIte])) | ((first | simp (disch:=omega) only [qch] | (refine cs_ ?_ ?_<;>intro hc) | refine cj_ ?_ | simp (disch:=omega) only [encs_getN,qb])<;>(try refine ev_ ?_)) | with_reducible exact ti_)
      rotate_left 1
      ·exfalso;omega
      refine qa hat ?_
      (simp (disch:=first | omega | (simp only [List.length_set,List.length_append,List.length_cons,List.length_nil];done) | (simp only [List.length_set,List.length_append,List.length_cons,List.length_nil];omega)) only [q7,go_sem,↓reduceIte])
      intro hwx
      refine ⟨hcap1,?_⟩
      repeat' (first | refine vs_ ?_ | ((first | refine vr_ ?_ | fail)<;>(try simp (disch:=first | omega | (simp only [List.length_set,List.length_append,List.length_cons,List.length_nil];done) | (simp only [List.length_set,List.length_append,List.length_cons,List.length_nil];omega)) only [qb,go_sem,↓reduceIte])) | ((first | (refine cs_ ?_ ?_<;>intro hc) | refine cj_ ?_ | simp (disch:=omega) only [encs_getN,qb])<;>(try refine ev_ ?_)) | with_reducible exact ti_)
      refine qf (j + 1) [0] ⟨by omega,by omega⟩ rfl (by simp) ?_ ?_ ?_<;>simp only [qzg,hs,← qbmi,qda,qdc]<;>(try refine ev_ ?_)<;>(try with_reducible exact ti_)<;>(try simp (disch:=omega) only [qb,and_true,true_and])
     ·simp only [qu (qg8 h0),qv (qg8 h0),qhe]
      generalize edJ l i j = acc at *
      repeat' (first | refine vs_ ?_ | ((first | refine vr_ ?_ | fail)<;>(try simp (disch:=first | omega | (simp only [List.length_set,List.length_append,List.length_cons,List.length_nil];done) | (simp only [List.length_set,List.length_append,List.length_cons,List.length_nil];omega)) only [qb,go_sem,↓reduceIte])) | ((first | simp (disch:=omega) only [qch] | (refine cs_ ?_ ?_<;>intro hc) | refine cj_ ?_ | simp (disch:=omega) only [encs_getN,qb])<;>(try refine ev_ ?_)) | with_reducible exact ti_)
      rotate_left 1
      ·exfalso;omega
      refine qa hat ?_
      (simp (disch:=first | omega | (simp only [List.length_set,List.length_append,List.length_cons,List.length_nil];done) | (simp only [List.length_set,List.length_append,List.length_cons,List.length_nil];omega)) only [qb,go_sem,↓reduceIte])
      intro hwx
      refine ⟨hcap,?_⟩
      repeat' (first | refine vs_ ?_ | ((first | refine vr_ ?_ | fail)<;>(try simp (disch:=first | omega | (simp only [List.length_set,List.length_append,List.length_cons,List.length_nil];done) | (simp only [List.length_set,List.length_append,List.length_cons,List.length_nil];omega)) only [qb,go_sem,↓reduceIte])) | ((first | (refine cs_ ?_ ?_<;>intro hc) | refine cj_ ?_ | simp (disch:=omega) only [encs_getN,qb])<;>(try refine ev_ ?_)) | with_reducible exact ti_)
      refine qf (j + 1) [1] ⟨by omega,by omega⟩ rfl (by simp) ?_ ?_ ?_<;>simp only [qzg,hs,← qvl,qdj,qdh,qhe]<;>(try refine ev_ ?_)<;>(try with_reducible exact ti_)<;>(try simp (disch:=omega) only [qb,and_true,true_and])
      all_goals (simp only [qvl];exact ⟨qrw _ _,by rw [qon]⟩)
    ·have he:=qbf4 hlt (show (l.getD i C0).sup.length≤j by omega)
     by_cases h0:edJ l i j = []
     ·simp only [h0,qjb,qo,qn]
      repeat' (first | refine vs_ ?_ | ((first | refine vr_ ?_ | fail)<;>(try simp (disch:=first | omega | (simp only [List.length_set,List.length_append,List.length_cons,List.length_nil];done) | (simp only [List.length_set,List.length_append,List.length_cons,List.length_nil];omega)) only [qb,go_sem,↓reduceIte])) | ((first | simp (disch:=omega) only [qch] | (refine cs_ ?_ ?_<;>intro hc) | refine cj_ ?_ | simp (disch:=omega) only [encs_getN,qb])<;>(try refine ev_ ?_)) | with_reducible exact ti_)
      all_goals try (exfalso;omega)
      refine qf (i + 1) [] ⟨by omega,by omega⟩ rfl (by simp) ?_ ?_ ?_<;>simp only [edSt,← he,h0,qjb,qo,qn]<;>(try refine ev_ ?_)<;>(try with_reducible exact ti_)<;>(try simp (disch:=omega) only [qb,and_true,true_and])
     ·simp only [qu (qg8 h0),qv (qg8 h0),qhe]
      repeat' (first | refine vs_ ?_ | ((first | refine vr_ ?_ | fail)<;>(try simp (disch:=first | omega | (simp only [List.length_set,List.length_append,List.length_cons,List.length_nil];done) | (simp only [List.length_set,List.length_append,List.length_cons,List.length_nil];omega)) only [qb,go_sem,↓reduceIte])) | ((first | simp (disch:=omega) only [qch] | (refine cs_ ?_ ?_<;>intro hc) | refine cj_ ?_ | simp (disch:=omega) only [encs_getN,qb])<;>(try refine ev_ ?_)) | with_reducible exact ti_)
      all_goals try (exfalso;omega)
      refine qf (i + 1) [0] ⟨by omega,by omega⟩ rfl (by simp) ?_ ?_ ?_<;>simp only [edSt,← he,qu (qg8 h0),qv (qg8 h0),qhe]<;>(try refine ev_ ?_)<;>(try with_reducible exact ti_)<;>(try simp (disch:=omega) only [qb,and_true,true_and])
  ·have hie:i = l.length:=by omega
   have he:edJ l i 0 = edC l l 0:=by rw [qbmk,List.take_of_length_le (by omega)]
   rw [he]
   by_cases h0:edC l l 0 = []
   ·simp only [h0,qjb,qo,qn]
    repeat' (first | refine vs_ ?_ | ((first | refine vr_ ?_ | fail)<;>(try simp only [q7,go_sem,↓reduceIte])) | ((first | (refine cs_ ?_ ?_<;>intro hc) | refine cj_ ?_ | simp (disch:=omega) only [encs_getN,qb])<;>(try refine ev_ ?_)) | with_reducible exact ti_)
    all_goals first | (exfalso;omega) | skip
   ·simp only [qu (qg8 h0),qv (qg8 h0),qhe]
    repeat' (first | refine vs_ ?_ | ((first | refine vr_ ?_ | (refine cs_ ?_ ?_<;>intro hc) | refine cj_ ?_ | simp (disch:=omega) only [encs_getN,qb])<;>(try refine ev_ ?_)) | with_reducible exact ti_)
    all_goals first | (exfalso;omega) | skip
set_option maxRecDepth 4000

def badE (n:Int) (e:Int×Int):Bool:=decide (e.1 < 0) || (decide (e.2 < 0) || (decide (n≤e.1) || decide (n≤e.2)))
def chkE (n:Int):List (Int×Int)->Int
 | []=>0
 | e :: r=>if badE n e = true then 1 else chkE n r
def chkG (n:Int) (l:List (Int×Int)):Int:=if n < 0∨1000 < n then 1 else chkE n l
theorem qb63 {l:List (Int×Int)} {i:Nat} (h:i < l.length):l.drop i = l.getD i (0,0) :: l.drop (i + 1):=by
 rw [List.drop_eq_getElem_cons h,List.getD_eq_getElem?_getD,List.getElem?_eq_getElem h];rfl
theorem qba4 {l:List (Int×Int)} {i:Nat} (h:i < l.length):l.getD i (0,0)∈l:=by
 rw [List.getD_eq_getElem?_getD,List.getElem?_eq_getElem h];exact List.getElem_mem h
theorem qtq {n:Int}:∀ {l:List (Int×Int)},chkE n l = 0->∀ e∈l,0≤e.1∧e.1 < n∧0≤e.2∧e.2 < n
 | [],_,e,he=>by cases he
 | x :: r, h, e, he => by
   rw [chkE] at h
   cases hb:badE n x with
   | true=>rw [hb,if_pos rfl] at h;cases h
   | false =>
     rw [hb,if_neg (by simp)] at h
     rcases List.mem_cons.1 he with rfl | he
     ·simp only [badE,Bool.or_eq_false_iff,decide_eq_false_iff_not] at hb
      omega
     ·exact qtq h e he
theorem qtu (n:Int) (l:List (Int×Int)):qk Tryz.prog 108 [.int .i64 n,.sl 2 (eds l)] (.int .i64 (chkG n l)):=by
 refine qd c0j (by simp) (by simp only [go_sem]) rfl fun hw=>?_
 have hl:l.length≤maxLen:=by have:=hw.2.1.1;rwa [qhe] at this
 unfold chkG
 by_cases hn:n < 0∨1000 < n
 ·rw [if_pos hn]
  by_cases h0:n < 0
  ·repeat' (first | refine vs_ ?_ | ((first | refine vr_ ?_ | fail)<;>(try simp only [h0,go_sem,↓reduceIte])) | ((first | (refine cs_ ?_ ?_<;>intro hc) | refine cj_ ?_ | simp (disch:=omega) only [encs_getN,qb])<;>(try refine ev_ ?_)) | with_reducible exact ti_)
  ·have h1:1000 < n:=by omega
   repeat' (first | refine vs_ ?_ | ((first | refine vr_ ?_ | fail)<;>(try simp only [h0,h1,go_sem,↓reduceIte])) | ((first | (refine cs_ ?_ ?_<;>intro hc) | refine cj_ ?_ | simp (disch:=omega) only [encs_getN,qb])<;>(try refine ev_ ?_)) | with_reducible exact ti_)
 ·rw [if_neg hn]
  have h0:¬ n < 0:=by omega
  have h1:¬ 1000 < n:=by omega
  repeat' (first | refine vs_ ?_ | ((first | refine vr_ ?_ | fail)<;>(try simp only [h0,h1,go_sem,↓reduceIte])) | ((first | (refine cs_ ?_ ?_<;>intro hc) | refine cj_ ?_ | simp (disch:=omega) only [encs_getN,qb])<;>(try refine ev_ ?_)) | with_reducible exact ti_)
  refine qj (S:=Nat) (fun i=>i≤l.length∧chkE n (l.drop i) = chkE n l) (fun i=>(⟨[(0,.int .i64 n),(13,.sl 2 (eds l)),(14,.int .i64 l.length),(15,.int .i64 i)],[]⟩,[])) (fun i=>l.length - i) ?_ fun i hi=>?_
  ·refine qf 0 [] ⟨Nat.zero_le _,rfl⟩ rfl (by simp) ?_ ?_ ?_<;>(try refine ev_ ?_)<;>(try with_reducible exact ti_)<;>(try simp (disch:=omega) only [qb,and_true,true_and])
  ·obtain ⟨hi,ha⟩:=hi
   by_cases hlt:i < l.length
   ·have hg:=q4v hlt
    rw [qb63 hlt,chkE] at ha
    generalize l.getD i (0,0) = e at *
    cases hb:badE n e with
    | true =>
      rw [hb,if_pos rfl] at ha
      simp only [badE,Bool.or_eq_true,decide_eq_true_eq] at hb
      by_cases hm:min e.1 e.2 < 0
      ·repeat' (first | refine vs_ ?_ | ((first | refine vr_ ?_ | fail)<;>(try simp (disch:=first | omega | (simp only [List.length_set,List.length_append,List.length_cons,List.length_nil];done) | (simp only [List.length_set,List.length_append,List.length_cons,List.length_nil];omega)) only [hg,qb,hm,go_sem,↓reduceIte])) | ((first | simp (disch:=omega) only [hg] | (refine cs_ ?_ ?_<;>intro hc) | refine cj_ ?_ | simp (disch:=omega) only [encs_getN,qb])<;>(try refine ev_ ?_)) | with_reducible exact ti_)
       all_goals first | (exfalso;omega) | rw [← ha] | trace_state
      ·have hx:n≤max e.1 e.2:=by omega
       repeat' (first | refine vs_ ?_ | ((first | refine vr_ ?_ | fail)<;>(try simp (disch:=first | omega | (simp only [List.length_set,List.length_append,List.length_cons,List.length_nil];done) | (simp only [List.length_set,List.length_append,List.length_cons,List.length_nil];omega)) only [hg,qb,hm,hx,go_sem,↓reduceIte])) | ((first | simp (disch:=omega) only [hg] | (refine cs_ ?_ ?_<;>intro hc) | refine cj_ ?_ | simp (disch:=omega) only [encs_getN,qb])<;>(try refine ev_ ?_)) | with_reducible exact ti_)
       all_goals first | (exfalso;omega) | rw [← ha] | trace_state
    | false =>
      rw [hb,if_neg (by simp)] at ha
      simp only [badE,Bool.or_eq_false_iff,decide_eq_false_iff_not] at hb
      have hm:¬ min e.1 e.2 < 0:=by omega
      have hx:¬ n≤max e.1 e.2:=by omega
      repeat' (first | refine vs_ ?_ | ((first | refine vr_ ?_ | fail)<;>(try simp (disch:=first | omega | (simp only [List.length_set,List.length_append,List.length_cons,List.length_nil];done) | (simp only [List.length_set,List.length_append,List.length_cons,List.length_nil];omega)) only [hg,qb,hm,hx,go_sem,↓reduceIte])) | ((first | simp (disch:=omega) only [hg] | (refine cs_ ?_ ?_<;>intro hc) | refine cj_ ?_ | simp (disch:=omega) only [encs_getN,qb])<;>(try refine ev_ ?_)) | with_reducible exact ti_)
      all_goals try (exfalso;omega)
      refine qf (i + 1) [] ⟨⟨by omega,ha⟩,by omega⟩ rfl (by simp) ?_ ?_ ?_<;>(try refine ev_ ?_)<;>(try with_reducible exact ti_)<;>(try simp (disch:=omega) only [qb,and_true,true_and])
   ·rw [List.drop_of_length_le (by omega),chkE] at ha
    repeat' (first | refine vs_ ?_ | ((first | refine vr_ ?_ | fail)<;>(try simp (disch:=first | omega | (simp only [List.length_set,List.length_append,List.length_cons,List.length_nil];done) | (simp only [List.length_set,List.length_append,List.length_cons,List.length_nil];omega)) only [qb,go_sem,↓reduceIte])) | ((first | (refine cs_ ?_ ?_<;>intro hc) | refine cj_ ?_ | simp (disch:=omega) only [encs_getN,qb])<;>(try refine ev_ ?_)) | with_reducible exact ti_)
    all_goals first | (exfalso;omega) | rw [← ha] | trace_state
end Go.Proofs.YtgglaabljlhliaaGreat

/- graphs: where edges lead from each vertex -/
set_option maxRecDepth 4000
namespace Go.V
open Go Go.RowKit
section
variable {P:Program} {fr:Option Nat} {n m:Nat} {Q:VE->AF->List Ent->Prop} {af:AF} {H:List Ent} {a:IC}
def q04:Gh:=⟨0,0,undef,fun _=>False⟩
theorem qov {α:Type} {k:Nat} {x:α} {l:List α} {i:Nat} {y:α} (h:(l ++ List.replicate k x)[i]? = some y):(i < l.length∧l[i]? = some y)∨(l.length≤i∧y = x):=by
 by_cases hi:i < l.length
 ·rw [List.getElem?_append_left hi] at h;exact .inl ⟨hi,h⟩
 ·rw [List.getElem?_append_right (by omega),List.getElem?_replicate] at h
  split at h
  ·simp only [Option.some.injEq] at h;exact .inr ⟨by omega,h.symm⟩
  ·cases h
theorem qbkn (k:Nat) (hm:m≤H.length) (h:VI P fr n m a Q af (H ++ List.replicate k .dead)):VI P fr n m a Q af H:=by
 intro c hc w M G act hst hr
 have hcore:∀ (i:Nat) (g:Gh),G[i]? = some g->∃ g':Gh,(G ++ List.replicate k q04)[i]? = some g'∧g'.core = g.core:=fun i g hg =>
  ⟨g,by rw [List.getElem?_append_left (List.getElem?_eq_some_iff.1 hg).1];exact hg,rfl⟩
 have hle:Le w M w M:=fun b o hb=>⟨hb,rfl⟩
 have hsub:∀ (i:Nat) (g:Gh) (b:Nat),(G ++ List.replicate k q04)[i]? = some g->g.fp b->G[i]? = some g:=fun i g b hg hb=>by
  rcases qov hg with ⟨_,h1⟩ | ⟨_,rfl⟩
  ·exact h1
  ·exact hb.elim
 have hst':St w M (G ++ List.replicate k q04) (H ++ List.replicate k .dead):=by
  refine ⟨by simp [hst.len],fun i g e hg he=>?_,fun i j g g' b h1 h2 h3 h4=>hst.dj i j g g' b (hsub _ _ _ h1 h3) (hsub _ _ _ h2 h4) h3 h4,fun i g b h1 h2=>hst.lt i g b (hsub _ _ _ h1 h2) h2,hst.Mlt,hst.one⟩
  rcases qov hg with ⟨h1,h2⟩ | ⟨h1,rfl⟩
  ·rcases qov he with ⟨h3,h4⟩ | ⟨h3,rfl⟩
   ·exact qew hcore (w:=w) (w':=w) (M:=M) (M':=M) ⟨fun _ _=>rfl,hle,fun _ _ _ h=>h,Nat.le_refl _⟩ (hst.ok i g e h2 h4)
   ·exact absurd h1 (by rw [hst.len];omega)
  ·rcases qov he with ⟨h3,h4⟩ | ⟨h3,rfl⟩
   ·exact absurd h1 (by rw [hst.len];omega)
   ·exact fun b hb=>hb
 have hown:∀ b,own (G ++ List.replicate k q04) b->own G b:=fun b ⟨i,g,hg,hb⟩=>⟨i,g,hsub _ _ _ hg hb,hb⟩
 have hx:Ext w M G w M (G ++ List.replicate k q04):=⟨rfl,rfl,rfl,Nat.le_refl _,hcore,hle,fun _ _ _=>rfl,fun b hb=>.inl (hown b hb),fun _ _ h=>.inl h⟩
 exact qkz (h c hc) hst' (hr.ext hx) hx.toM
theorem q14 {w:World} {M:Nat->Nat->Prop} {G:List Gh} (hst:St w M G H) (c:Co):∀ {es:List AV} {us:List Value},VRs w M G es us->VRs w M G (es.map (co H c)) us
 | [],us,h=>h
 | v :: es, us, h => by
   obtain ⟨x,r,h1,h2,h3⟩:=h
   exact ⟨x,r,h1,qcy hst c v x h2,q14 hst c h3⟩
theorem qbxg (j q:Nat) (c:Co) {es:List AV} (he:ent H j = .mrow q es) (h:VI P fr n m a Q af (H.set j (.mrow q (es.map (co H c))))):VI P fr n m a Q af H:=by
 intro z hz w M G act hst hr
 have hH:=q9 he (by simp)
 obtain ⟨g,hg⟩:=hst.lenH hH
 obtain ⟨h1,⟨r1,r2,vs,t,us,r3,r4,r5,r6,r7⟩,h4⟩:=hst.ok j g _ hg hH
 have hs:=qil (w':=w) (M':=M) (g':=g) (e:=.mrow q (es.map (co H c))) hst hg rfl (fun _ h=>h) (Nat.le_refl _) (fun _ _ _=>rfl) (Le.refl w M) (fun _ _ h=>.inl h) (by rw [qel _ _ _ hg];exact ⟨h1,⟨by simpa using r1,r2,vs,t,us,r3,r4,q14 hst c r5,r6,by simpa using r7⟩,h4⟩)
 rw [qel _ _ _ hg] at hs
 exact qkz (h z hz) hs hr ExtM.refl
end
end Go.V
namespace Go.Proofs.YtgglaabljlhliaaGreat
open Go Go.RowKit Go.V

def nxS (l:List (List Int)) (e:Int×Int):List (List Int):=l.set e.1.toNat (l.getD e.1.toNat [] ++ [e.2])
def nxG (n:Nat) (es:List (Int×Int)):List (List Int):=es.foldl nxS (List.replicate n [])
theorem q66 (n:Nat) (es:List (Int×Int)) (e:Int×Int):nxG n (es ++ [e]) = nxS (nxG n es) e:=by simp [nxG]
theorem qpp (n:Nat) (es:List (Int×Int)):(nxG n es).length = n:=by
 have:∀ (es:List (Int×Int)) (l:List (List Int)),(es.foldl nxS l).length = l.length:=fun es=>by
  induction es with
  | nil=>exact fun _=>rfl
  | cons e r ih=>intro l;rw [List.foldl_cons,ih];simp [nxS]
 rw [nxG,this];simp
def hdV (v:Nat) (r:List Int):AV:=match r with
 | []=>.nils
 | _ :: _=>.row (v + 1) r.length
def hdrV:Nat->List (List Int)->List AV
 | _,[]=>[]
 | v,r :: t=>hdV v r :: hdrV (v + 1) t
def roE (r:List Int):Ent:=match r with
 | []=>.dead
 | _ :: _=>.app 1 (ints r)
theorem qoo:∀ (v:Nat) (l:List (List Int)),(hdrV v l).length = l.length
 | _,[]=>rfl
 | v,r :: t=>by rw [hdrV,List.length_cons,qoo,List.length_cons]
theorem qgq:∀ (v:Nat) (l:List (List Int)) (i:Nat),(hdrV v l)[i]? = (l[i]?).map (hdV (v + i))
 | _,[],i=>by simp [hdrV]
 | v,r :: t,0=>by simp [hdrV]
 | v, r :: t, i + 1 => by
   rw [hdrV,List.getElem?_cons_succ,qgq (v + 1) t i,List.getElem?_cons_succ,show v + 1 + i = v + (i + 1) by omega]
theorem qbdy {r:List Int} (v:Nat) (h:r≠[]):hdV v r = .row (v + 1) r.length:=by cases r with | nil=>exact absurd rfl h | cons _ _=>rfl
theorem qbed {r:List Int} (h:r≠[]):roE r = .app 1 (ints r):=by cases r with | nil=>exact absurd rfl h | cons _ _=>rfl
theorem q5q (n:Nat) (es:List (Int×Int)):∀ r∈nxG n es,r.length≤es.length:=by
 have:∀ (es:List (Int×Int)) (l:List (List Int)) (k:Nat),(∀ r∈l,r.length≤k)->∀ r∈es.foldl nxS l,r.length≤k + es.length:=fun es=>by
  induction es with
  | nil=>intro l k h r hr;exact h r hr
  | cons e t ih =>
    intro l k h r hr
    rw [List.foldl_cons] at hr
    have:=ih (nxS l e) (k + 1) (fun x hx=>by
     rcases List.mem_or_eq_of_mem_set hx with hx | rfl
     ·have:=h x hx;omega
     ·rw [List.length_append]
      by_cases hi:e.1.toNat < l.length
      ·have:=h _ (show l.getD e.1.toNat []∈l by rw [List.getD_eq_getElem?_getD,List.getElem?_eq_getElem hi];exact List.getElem_mem hi)
       simp only [List.length_cons,List.length_nil];omega
      ·rw [List.getD_eq_getElem?_getD,List.getElem?_eq_none (by omega)];simp) r hr
    simp at this ⊢;omega
 intro r hr
 have:=this es (List.replicate n []) 0 (fun r hr=>by rw [List.eq_of_mem_replicate hr];simp) r hr
 omega
def nxSt (n:Nat) (es:List (Int×Int)) (i:Nat):AF×List Ent :=
 (⟨[(5,.row 0 n),(10,.sl 2 (eds es)),(11,.int .i64 es.length),(12,.int .i64 i)],[]⟩,.mrow 1 (hdrV 0 (nxG n (es.take i))) :: (nxG n (es.take i)).map roE)
theorem qit:∀ {l:List (List Int)} {i:Nat},i < l.length->ent (l.map roE) i = roE (l.getD i [])
 | [],i,h=>absurd h (by simp)
 | r :: t,0,h=>rfl
 | r :: t, i + 1, h => by
   have:=qit (l:=t) (i:=i) (by simpa using h)
   simpa [ent] using this
theorem qxk:∀ {R T:List Ent} {i:Nat},i < R.length->ent (R ++ T) i = ent R i
 | [],T,i,h=>absurd h (by simp)
 | e :: R,T,0,h=>rfl
 | e :: R,T,i + 1,h=>by simpa [ent] using qxk (R:=R) (T:=T) (i:=i) (by simpa using h)
theorem qv9:∀ {R:List Ent} {j k:Nat} {x:Ent},j≠k->ent (R.set k x) j = ent R j
 | [],j,k,x,h=>rfl
 | e :: R,0,0,x,h=>absurd rfl h
 | e :: R,0,k + 1,x,h=>rfl
 | e :: R,j + 1,0,x,h=>rfl
 | e :: R,j + 1,k + 1,x,h=>by simpa [ent] using qv9 (R:=R) (j:=j) (k:=k) (x:=x) (by omega)
def sgN (n k j:Nat):Nat:=if j = k + 1 then n + 2 else j
theorem qbdz (n k:Nat):sgN n k (k + 1) = n + 2:=if_pos rfl
theorem qvz {n k j:Nat} (h:j≠k + 1):sgN n k j = j:=if_neg h
theorem qbro {σ:Nat->Nat} {k:Nat} {tm:List (Nat×AV)}:∀ (l:List (Nat×AV)),(∀ p∈l,p.2.bd k = true∧V.get tm p.1 = p.2.ren σ)->∀ t,V.get l t = .junk∨((V.get l t).bd k = true∧V.get tm t = (V.get l t).ren σ)
 | [],_,t=>.inl rfl
 | (q, v) :: l, h, t => by
   simp only [V.get]
   by_cases e:q = t
   ·subst e
    rw [if_pos rfl]
    exact .inr (h (q,v) (by simp))
   ·rw [if_neg e];exact qbro l (fun p hp=>h p (by simp [hp])) t
theorem qwh:∀ {H:List Ent} {i:Nat},i < H.length->H[i]? = some (ent H i)
 | [],i,h=>absurd h (by simp)
 | e :: H,0,h=>rfl
 | e :: H,i + 1,h=>by simpa [ent] using qwh (H:=H) (i:=i) (by simpa using h)
theorem q3u {L:List (List Int)} {k:Nat} {r:List Int} (hk:k < L.length) (hne:r≠[]) {R:List Ent} (hR:R.length = L.length) (hRj:∀ j,j < L.length->j≠k->ent R j = roE (L.getD j [])) {x:Ent} {tm:List (Nat×AV)} {es:List (Int×Int)} {i:Nat}
 (h5:V.get tm 5 = .row 0 L.length) (h10:V.get tm 10 = .sl 2 (eds es)) (h11:V.get tm 11 = .int .i64 es.length) (h12:V.get tm 12 = .int .i64 i) :
 Wk 0 ⟨tm,[]⟩ (.mrow 1 ((hdrV 0 L).set k (.row (L.length + 2) r.length)) :: (R ++ [x,.app 1 (ints r)])) ⟨[(5,.row 0 L.length),(10,.sl 2 (eds es)),(11,.int .i64 es.length),(12,.int .i64 i)],[]⟩ (.mrow 1 (hdrV 0 (L.set k r)) :: (L.set k r).map roE):=by
 have hlen:(Ent.mrow 1 (hdrV 0 (L.set k r)) :: (L.set k r).map roE).length = L.length + 1:=by simp
 refine ⟨sgN L.length k,fun j hj=>absurd hj (by omega),Nat.zero_le _,fun a b ha hb hab=>?_,fun j e he=>?_,fun j hj=>?_,?_,(fun d hd=>by cases hd),rfl⟩
 ·rw [hlen] at ha hb
  unfold sgN at hab
  split at hab<;>split at hab<;>omega
 ·rw [hlen]
  cases j with
  | zero =>
    simp only [List.getElem?_cons_zero,Option.some.injEq] at he
    subst he
    refine .inr ⟨?_,?_⟩
    ·simp only [Ent.bd,qb9,List.all_eq_true]
     intro v hv
     obtain ⟨q,hq⟩:=List.mem_iff_getElem?.1 hv
     rw [qgq] at hq
     have hql:q < (L.set k r).length:=by
      rcases Nat.lt_or_ge q (L.set k r).length with h | h
      ·exact h
      ·rw [List.getElem?_eq_none h] at hq;cases hq
     rw [List.length_set] at hql
     obtain ⟨z,_,rfl⟩:=Option.map_eq_some_iff.1 hq
     cases z with
     | nil=>rfl
     | cons a b=>simp only [hdV,AV.bd,decide_eq_true_eq];omega
    ·rw [qvz (by omega)]
     simp only [List.getElem?_cons_zero,Option.some.injEq,Ent.ren,Ent.mrow.injEq,true_and]
     refine List.ext_getElem? fun q=>?_
     rw [qi2,List.getElem?_map,qgq,Nat.zero_add,List.getElem?_set,List.getElem?_set,qoo]
     by_cases hq:k = q
     ·subst hq
      rw [if_pos rfl,if_pos hk,if_pos rfl,if_pos hk]
      simp only [Option.map_some,qbdy _ hne,AV.ren,qbdz]
     ·rw [if_neg hq,if_neg hq,qgq,Nat.zero_add]
      cases hz:L[q]? with
      | none=>rfl
      | some z =>
        simp only [Option.map_some,Option.some.injEq]
        cases z with
        | nil=>rfl
        | cons a b=>simp only [hdV,AV.ren];rw [qvz (by omega)]
  | succ j =>
    simp only [List.getElem?_cons_succ,List.getElem?_map,List.getElem?_set] at he
    by_cases hjk:k = j
    ·subst hjk
     rw [if_pos rfl,if_pos hk] at he
     simp only [Option.map_some,Option.some.injEq,qbed hne] at he
     subst he
     refine .inr ⟨qdr _ _,?_⟩
     rw [qbdz]
     simp only [Ent.ren,qff]
     rw [show L.length + 2 = (L.length + 1) + 1 by omega,List.getElem?_cons_succ,List.getElem?_append_right (by omega),hR,show L.length + 1 - L.length = 1 by omega]
     rfl
    ·rw [if_neg hjk] at he
     have hj:j < L.length:=by
      rcases Nat.lt_or_ge j L.length with h | h
      ·exact h
      ·rw [List.getElem?_eq_none h] at he;cases he
     rw [List.getElem?_eq_getElem hj] at he
     simp only [Option.map_some,Option.some.injEq] at he
     have hg:L.getD j [] = L[j]:=by rw [List.getD_eq_getElem?_getD,List.getElem?_eq_getElem hj];rfl
     rw [← hg] at he
     subst he
     rw [qvz (by omega),List.getElem?_cons_succ,List.getElem?_append_left (by omega),qwh (by omega),hRj j hj (fun e=>hjk e.symm)]
     generalize L.getD j [] = z
     cases z with
     | nil=>exact .inl rfl
     | cons a b=>exact .inr ⟨qdr _ (a :: b),by simp only [roE,Ent.ren,qff]⟩
 ·rw [hlen] at hj
  simp only [List.length_cons,List.length_append,List.length_nil,hR]
  unfold sgN
  split<;>omega
 ·rw [hlen]
  refine qbro _ fun p hp=>?_
  simp only [List.mem_cons,List.not_mem_nil,or_false] at hp
  rcases hp with rfl | rfl | rfl | rfl
  ·exact ⟨by simp [AV.bd],by rw [h5];simp only [AV.ren];rw [qvz (by omega)]⟩
  ·exact ⟨qrw _ _,by rw [h10];simp only [AV.ren,qon]⟩
  ·exact ⟨rfl,h11⟩
  ·exact ⟨rfl,h12⟩
theorem qbd7 (k:Nat) (l:List (List Int)):AV.bds k (l.map fun r=>AV.sl 1 (ints r)) = true:=by
 rw [qb9,List.all_map,List.all_eq_true]
 exact fun r _=>qdr k r
theorem qvc (k:Nat):∀ n,hdrV k (List.replicate n []) = List.replicate n .nils
 | 0=>rfl
 | n + 1=>by rw [List.replicate_succ,hdrV,qvc (k + 1) n,List.replicate_succ];rfl
set_option maxHeartbeats 1000000 in
theorem qzr (n:Nat) (es:List (Int×Int)) (hn:n≤1000) (hes:es.length≤1000) (hc:chkE n es = 0):qk Tryz.prog 110 [.int .i64 n,.sl 2 (eds es)] (.sl 1 ((nxG n es).map fun r=>.sl 1 (ints r))):=by
 refine qd c0i (by simp) (by simp only [go_sem]) (by
  simp only [AV.bd,qb9,List.all_map,List.all_eq_true]
  exact fun x _=>by simpa [AV.bd] using qdr 0 x) fun hw=>?_
 have hl:es.length≤maxLen:=by unfold maxLen;omega
 have hcap:qbb n 24:=by unfold qbb;omega
 unfold k0i
 repeat' (first | refine vs_ ?_ | ((first | refine vr_ ?_ | (refine cs_ ?_ ?_<;>intro hc) | refine cj_ ?_ | simp (disch:=omega) only [encs_getN,qb])<;>(try refine ev_ ?_)) | with_reducible exact ti_)
 refine ⟨⟨by omega,by unfold maxLen;omega⟩,?_⟩
 repeat' (first | refine vs_ ?_ | ((first | refine vr_ ?_ | (refine cs_ ?_ ?_<;>intro hc) | refine cj_ ?_ | simp (disch:=omega) only [encs_getN,qb])<;>(try refine ev_ ?_)) | with_reducible exact ti_)
 refine qbkn n (Nat.zero_le _) ?_
 refine qj (S:=Nat) (fun i=>i≤es.length) (nxSt n es) (fun i=>es.length - i) ?_ fun i hi=>?_
 ·refine ⟨0,Nat.zero_le _,fun j=>j,fun j hj=>rfl,Nat.zero_le _,fun a b _ _ h=>h,fun j e he=>?_,fun j hj=>?_,?_,(fun d hd=>by cases hd),rfl⟩
  ·simp only [nxSt,List.take_zero,nxG,List.foldl_nil,qvc,List.map_replicate] at he ⊢
   cases j with
   | zero =>
     simp only [List.getElem?_cons_zero,Option.some.injEq] at he
     subst he
     have hr:∀ σ:Nat->Nat,AV.rens σ (List.replicate n .nils) = List.replicate n .nils:=fun σ=>by rw [qi2,List.map_replicate];rfl
     have hb:∀ k,AV.bds k (List.replicate n .nils) = true:=fun k=>by rw [qb9,List.all_eq_true];intro x hx;rw [List.eq_of_mem_replicate hx];rfl
     exact .inr ⟨hb _,by simp only [Ent.ren,hr];rfl⟩
   | succ j =>
     rw [List.getElem?_cons_succ,List.getElem?_replicate] at he
     split at he
     ·simp only [Option.some.injEq] at he;exact .inl he.symm
     ·cases he
  ·simpa [nxSt,qpp] using hj
  ·refine qbro _ fun p hp=>?_
   simp only [nxSt,List.mem_cons,List.not_mem_nil,or_false] at hp
   rcases hp with rfl | rfl | rfl | rfl
   ·exact ⟨by simp [AV.bd,nxSt],rfl⟩
   ·exact ⟨qrw _ _,by simp only [AV.ren,qon];rfl⟩
   ·exact ⟨rfl,rfl⟩
   ·exact ⟨rfl,rfl⟩
 ·unfold nxSt
  have hL:=qpp n (es.take i)
  have hrl:=q5q n (es.take i)
  have htk:(es.take i).length≤1000:=by rw [List.length_take];omega
  generalize hLe:nxG n (es.take i) = L at *
  by_cases hlt:i < es.length
  ·have hg:=q4v hlt
   have hem:=qtq hc _ (qba4 hlt)
   have hsn:nxG n (es.take (i + 1)) = nxS L (es.getD i (0,0)):=by
    have:es.take (i + 1) = es.take i ++ [es.getD i (0,0)]:=by
     rw [List.take_add_one,List.getElem?_eq_getElem hlt,List.getD_eq_getElem?_getD,List.getElem?_eq_getElem hlt];rfl
    rw [this,q66,hLe]
   generalize es.getD i (0,0) = e at *
   obtain ⟨f,t⟩:=e
   obtain ⟨m1,m2,m3,m4⟩:=hem
   simp only at m1 m2 m3 m4
   obtain ⟨k,rfl⟩:∃ k:Nat,f = k:=⟨f.toNat,by omega⟩
   have hk:k < L.length:=by omega
   have hkn:(0:Int)≤k:=by omega
   have hll:=qoo 0 L
   have hkl:k < (hdrV 0 L).length:=by omega
   have hgk:(hdrV 0 L).getD k .junk = hdV k (L.getD k []):=by
    rw [List.getD_eq_getElem?_getD,qgq,List.getD_eq_getElem?_getD,List.getElem?_eq_getElem hk,Nat.zero_add];rfl
   have hro:=qit hk
   have hnat:(k:Int).toNat = k:=by simp
   have hrk:=hrl (L.getD k []) (by rw [List.getD_eq_getElem?_getD,List.getElem?_eq_getElem hk];exact List.getElem_mem hk)
   generalize hr:L.getD k [] = r at *
   have hcap1:qbb 1 8:=capI (by omega)
   by_cases h0:r = []
   ·subst h0
    have hgk:(hdrV 0 L).getD k .junk = .nils:=hgk
    repeat' (first | refine vs_ ?_ | ((first | refine vr_ ?_ | fail)<;>(try simp (disch:=first | omega | (simp only [List.length_set,List.length_append,List.length_cons,List.length_nil];done) | (simp only [List.length_set,List.length_append,List.length_cons,List.length_nil];omega)) only [hg,hgk,hkl,qb,hnat,go_sem,↓reduceIte])) | ((first | simp (disch:=omega) only [hg] | (refine cs_ ?_ ?_<;>intro hc) | refine cj_ ?_ | simp (disch:=omega) only [encs_getN,qb])<;>(try refine ev_ ?_)) | with_reducible exact ti_)
    rotate_left 1
    ·omega
    refine ⟨by simp,m2,?_⟩
    repeat' (first | refine vs_ ?_ | ((first | refine vr_ ?_ | fail)<;>(try simp (disch:=first | omega | (simp only [List.length_set,List.length_append,List.length_cons,List.length_nil];done) | (simp only [List.length_set,List.length_append,List.length_cons,List.length_nil];omega)) only [qb,go_sem,↓reduceIte])) | ((first | (refine cs_ ?_ ?_<;>intro hc) | refine cj_ ?_ | simp (disch:=omega) only [encs_getN,qb])<;>(try refine ev_ ?_)) | with_reducible exact ti_)
    refine ⟨i + 1,⟨by omega,by omega⟩,?_⟩
    have hs2:nxS L ((k:Int),t) = L.set k [t]:=by
     show L.set (k:Int).toNat (L.getD (k:Int).toNat [] ++ [t]) = _
     rw [hnat,hr];rfl
    rw [hs2] at hsn
    dsimp only
    rw [hsn]
    simp only [List.length_map,← hL]
    exact q3u (r:=[t]) hk (by simp) (R:=L.map roE) (by simp) (fun j hj _=>qit hj) rfl rfl rfl rfl
   ·rw [qbdy _ h0] at hgk
    rw [qbed h0] at hro
    have hcap2:qbb (r.length + 1) 8:=capI (by omega)
    have hro2:∀ T,ent (L.map roE ++ T) k = .app 1 (ints r):=fun T=>by rw [qxk (by simpa using hk),hro]
    have hse:∀ T:List Ent,(L.map roE ++ T).set k .dead = (L.map roE).set k .dead ++ T:=fun T=>by rw [List.set_append_left _ _ (by simpa using hk)]
    repeat' (first | refine vs_ ?_ | ((first | refine vr_ ?_ | fail)<;>(try simp (disch:=first | omega | (simp only [List.length_set,List.length_append,List.length_cons,List.length_nil];done) | (simp only [List.length_set,List.length_append,List.length_cons,List.length_nil];omega)) only [hg,hgk,hkl,qb,hnat,hro2,hse,qby,go_sem,↓reduceIte])) | ((first | simp (disch:=omega) only [hg] | (refine cs_ ?_ ?_<;>intro hc) | refine cj_ ?_ | simp (disch:=omega) only [encs_getN,qb])<;>(try refine ev_ ?_)) | with_reducible exact ti_)
    rotate_left 1
    ·omega
    refine ⟨⟨by simp,by rw [if_neg (by simp;omega)]⟩,m2,?_⟩
    repeat' (first | refine vs_ ?_ | ((first | refine vr_ ?_ | fail)<;>(try simp (disch:=first | omega | (simp only [List.length_set,List.length_append,List.length_cons,List.length_nil];done) | (simp only [List.length_set,List.length_append,List.length_cons,List.length_nil];omega)) only [qb,go_sem,↓reduceIte])) | ((first | (refine cs_ ?_ ?_<;>intro hc) | refine cj_ ?_ | simp (disch:=omega) only [encs_getN,qb])<;>(try refine ev_ ?_)) | with_reducible exact ti_)
    refine ⟨i + 1,⟨by omega,by omega⟩,?_⟩
    have hs2:nxS L ((k:Int),t) = L.set k (r ++ [t]):=by
     show L.set (k:Int).toNat (L.getD (k:Int).toNat [] ++ [t]) = _
     rw [hnat,hr]
    rw [hs2] at hsn
    dsimp only
    rw [hsn]
    simp only [List.length_map,qhj,← hL]
    rw [show r.length + 1 = (r ++ [t]).length by simp]
    exact q3u (r:=r ++ [t]) hk (by simp) (R:=(L.map roE).set k .dead) (by simp) (fun j hj hjk=>by rw [← qit hj];exact qv9 hjk) rfl rfl rfl rfl
  ·have hie:i = es.length:=by omega
   have hLs:nxG n es = L:=by rw [← hLe,List.take_of_length_le (by omega)]
   rw [hLs]
   have hso:(hdrV 0 L).map (co (.mrow 1 (hdrV 0 L) :: L.map roE) (.sl 1)) = L.map fun r=>.sl 1 (ints r):=by
    refine List.ext_getElem? fun q=>?_
    rw [List.getElem?_map,List.getElem?_map,qgq,Nat.zero_add]
    cases hz:L[q]? with
    | none=>rfl
    | some z =>
      simp only [Option.map_some,Option.some.injEq]
      cases z with
      | nil=>rfl
      | cons a b =>
        have hq:q < L.length:=(List.getElem?_eq_some_iff.1 hz).1
        have he:=qit hq
        rw [List.getD_eq_getElem?_getD,hz] at he
        show co _ (.sl 1) (.row (q + 1) (a :: b).length) = _
        rw [qsx]
        simp only [ent,he,Option.getD_some,roE,q50,qby,if_true]
   refine qbxg 0 1 (.sl 1) (es:=hdrV 0 L) rfl ?_
   rw [hso]
   refine qbd1 0 (q:=1) (es:=L.map fun r=>.sl 1 (ints r)) rfl (by simp [AV.isAgg,AV.leaf,AV.cells]) ?_
   repeat' (first | refine vs_ ?_ | ((first | refine vr_ ?_ | fail)<;>(try simp (disch:=first | omega | (simp only [List.length_set,List.length_append,List.length_cons,List.length_nil];done) | (simp only [List.length_set,List.length_append,List.length_cons,List.length_nil];omega)) only [qb,hL,List.length_map,go_sem,↓reduceIte])) | ((first | (refine cs_ ?_ ?_<;>intro hc) | refine cj_ ?_ | simp (disch:=omega) only [encs_getN,qb])<;>(try refine ev_ ?_)) | with_reducible exact ti_)
   all_goals first | (exfalso;omega) | exact qbd7 _ _ | trace_state
end Go.Proofs.YtgglaabljlhliaaGreat

/- graphs: what is reached -/
set_option maxRecDepth 4000
namespace Go.Proofs.YtgglaabljlhliaaGreat
open Go Go.RowKit Go.V

def bl (m:List Bool):List AV:=m.map AV.bool
theorem qer (m:List Bool):(bl m).length = m.length:=by simp [bl]
theorem qub (k:Nat) (m:List Bool):AV.bds k (bl m) = true:=by rw [bl,qb9];simp [AV.bd]
theorem qb2q (σ:Nat->Nat) (m:List Bool):AV.rens σ (bl m) = bl m:=ql (m:=0) (fun i hi=>by omega) _ (qub 0 m)
theorem q4b {m:List Bool} {i:Nat} (h:i < m.length):(bl m).getD i .junk = .bool (m.getD i true):=by
 rw [bl,List.getD_eq_getElem?_getD,List.getElem?_map,List.getElem?_eq_getElem h,List.getD_eq_getElem?_getD,List.getElem?_eq_getElem h];rfl
theorem qvq (m:List Bool) (i:Nat) (b:Bool):(bl m).set i (.bool b) = bl (m.set i b):=by rw [bl,bl,List.map_set]
attribute [go_sem] qer qub qb2q
def rows (to:List (List Int)):List AV:=to.map fun r=>.sl 1 (ints r)
theorem qbck (to:List (List Int)):(rows to).length = to.length:=by simp [rows]
theorem qo0 (k:Nat) (to:List (List Int)):AV.bds k (rows to) = true:=qbd7 k to
theorem qom (σ:Nat->Nat) (to:List (List Int)):AV.rens σ (rows to) = rows to:=ql (m:=0) (fun i hi=>by omega) _ (qo0 0 to)
theorem qbci {to:List (List Int)} {i:Nat} (h:i < to.length):(rows to).getD i .junk = .sl 1 (ints (to.getD i [])):=by
 rw [rows,List.getD_eq_getElem?_getD,List.getElem?_map,List.getElem?_eq_getElem h,List.getD_eq_getElem?_getD,List.getElem?_eq_getElem h];rfl
attribute [go_sem] qbck qo0 qom
def unm (m:List Bool):Nat:=m.countP (fun b=>!b)
theorem q5i {m:List Bool} {i:Nat} (h:i < m.length) (hb:m.getD i true = false):unm (m.set i true) + 1 = unm m:=by
 induction m generalizing i with
 | nil=>exact absurd h (by simp)
 | cons b r ih =>
   cases i with
   | zero =>
     have:b = false:=hb
     subst this
     simp [unm]
   | succ i =>
     have:=ih (i:=i) (by simpa using h) (by simpa using hb)
     simp only [unm,List.set_cons_succ,List.countP_cons] at this ⊢
     omega
def frM (to:List (List Int)):Nat->List Int->List Bool->List Bool
 | 0,_,m=>m
 | f + 1,row,m=>row.foldl (fun m w=>if m.getD w.toNat true = true then m else frM to f (to.getD w.toNat []) (m.set w.toNat true)) m
theorem ql3 (to:List (List Int)):∀ (f:Nat) (row:List Int) (m:List Bool),(frM to f row m).length = m.length
 | 0,row,m=>rfl
 | f + 1,[],m=>rfl
 | f + 1, w :: r, m => by
   have h1:=ql3 to (f + 1) r (if m.getD w.toNat true = true then m else frM to f (to.getD w.toNat []) (m.set w.toNat true))
   show (frM to (f + 1) r _).length = _
   rw [h1]
   split
   ·rfl
   ·rw [ql3 to f];simp
theorem qbej:∀ {a b:List Bool},a.length = b.length->(∀ i:Nat,a.getD i true = true->b.getD i true = true)->unm b≤unm a
 | [],[],_,_=>Nat.le_refl _
 | [],_ :: _,h,_=>by simp at h
 | _ :: _,[],h,_=>by simp at h
 | x :: a, y :: b, h, hi => by
   have h1:=qbej (a:=a) (b:=b) (by simpa using h) fun i hh=>by have:=hi (i + 1) (by simpa using hh);simpa using this
   have h0:=hi 0
   simp only [unm,List.countP_cons] at h1 ⊢
   cases x<;>cases y<;>simp at h0 ⊢<;>omega
def stpM (to:List (List Int)) (f:Nat) (m:List Bool) (w:Int):List Bool:=if m.getD w.toNat true = true then m else frM to f (to.getD w.toNat []) (m.set w.toNat true)
theorem qvy (to:List (List Int)) (f:Nat) (row:List Int) (m:List Bool):frM to (f + 1) row m = row.foldl (stpM to f) m:=rfl
theorem q1m (m:List Bool) (i j:Nat) (h:m.getD i true = true):(m.set j true).getD i true = true:=by
 rw [List.getD_eq_getElem?_getD,List.getElem?_set] at *
 split
 ·split<;>rfl
 ·exact h
theorem qoc (to:List (List Int)):∀ (f:Nat) (row:List Int) (m:List Bool) (i:Nat),m.getD i true = true->(frM to f row m).getD i true = true
 | 0,row,m,i,h=>h
 | f + 1,[],m,i,h=>h
 | f + 1, w :: r, m, i, h => by
   show (frM to (f + 1) r (stpM to f m w)).getD i true = true
   refine qoc to (f + 1) r _ i ?_
   unfold stpM
   split
   ·exact h
   ·exact qoc to f _ _ i (q1m _ _ _ h)
theorem qbld (to:List (List Int)) (f:Nat) (row:List Int) (m:List Bool):unm (frM to f row m)≤unm m:=qbej (ql3 to f row m).symm fun i h=>qoc to f row m i h
theorem qbyu {l:List Int} {i:Nat} (h:i < l.length):l.take (i + 1) = l.take i ++ [l.getD i 0]:=by
 rw [List.take_add_one,List.getElem?_eq_getElem h,List.getD_eq_getElem?_getD,List.getElem?_eq_getElem h];rfl
set_option maxHeartbeats 1000000 in
theorem qmw {to:List (List Int)} (hb:∀ r∈to,r.length≤1000∧∀ w∈r,0≤w∧w < to.length) (hl:to.length≤1000):∀ (f:Nat) (m:List Bool) (v:Nat),m.length = 1000->v < to.length->unm m < f →
 VM Tryz.prog 109 (.blk (bl m)) (.blk (bl (frM to f (to.getD v []) m))) [.ptr 0 0,.sl 1 (rows to),.int .i64 v] (.tup [])
 | 0,m,v,_,_,h=>absurd h (by omega)
 | f + 1, m, v, hm, hv, hf => by
   refine qr c0h 1 (by simp) (by simp) ?_
   have hrow:=hb (to.getD v []) (by rw [List.getD_eq_getElem?_getD,List.getElem?_eq_getElem hv];exact List.getElem_mem hv)
   have hg:=qbci hv
   generalize hr:to.getD v [] = row at *
   have hM:(1000:Nat)≤maxLen:=by unfold maxLen;omega
   have hrl:row.length≤maxLen:=by omega
   have hnat:(v:Int).toNat = v:=by simp
   have hvi:(v:Int) < (to.length:Int):=by omega
   have hv0:(0:Int)≤v:=by omega
   repeat' (first | refine vs_ ?_ | ((first | refine vr_ ?_ | fail)<;>(try simp (disch:=first | omega | (simp only [List.length_set,List.length_append,List.length_cons,List.length_nil];done) | (simp only [List.length_set,List.length_append,List.length_cons,List.length_nil];omega)) only [hg,qb,hnat,hvi,hv0,go_sem,↓reduceIte])) | ((first | (refine cs_ ?_ ?_<;>intro hc) | refine cj_ ?_ | simp (disch:=omega) only [encs_getN,qb])<;>(try refine ev_ ?_)) | with_reducible exact ti_)
   refine qj (S:=Nat) (fun i=>i≤row.length) (fun i=>(⟨[(0,.ptr 0 0),(1,.sl 1 (rows to)),(11,.sl 1 (ints row)),(12,.int .i64 row.length),(13,.int .i64 i)],[]⟩,[.blk (bl (frM to (f + 1) (row.take i) m))])) (fun i=>row.length - i) ?_ fun i hi=>?_
   ·have h00:frM to (f + 1) [] m = m:=rfl
    refine qf 0 [0] (Nat.zero_le _) rfl (by simp) ?_ ?_ ?_<;>simp only [List.take_zero,h00]<;>(try refine ev_ ?_)<;>(try with_reducible exact ti_)<;>(try simp (disch:=omega) only [qb,and_true,true_and])
   ·by_cases hlt:i < row.length
    ·have hml:=ql3 to (f + 1) (row.take i) m
     have hmu:=qbld to (f + 1) (row.take i) m
     have hst:frM to (f + 1) (row.take (i + 1)) m = stpM to f (frM to (f + 1) (row.take i) m) (row.getD i 0):=by
      rw [qvy,qbyu hlt,List.foldl_append,← qvy];rfl
     obtain ⟨w0,w1⟩:=hrow.2 _ (q88 hlt)
     generalize frM to (f + 1) (row.take i) m = m1 at *
     have hgi:=qk3 hlt
     generalize row.getD i 0 = w at *
     obtain ⟨k,rfl⟩:∃ k:Nat,w = k:=⟨w.toNat,by omega⟩
     have hkn:(k:Int).toNat = k:=by simp
     have hk1:k < m1.length:=by omega
     have hgb:=q4b hk1
     have hk2:(k:Int) < ((1000:Nat):Int):=by omega
     have hk3:k < m1.length:=hk1
     unfold stpM at hst
     rw [hkn] at hst
     cases hmk:m1.getD k true with
     | true =>
       rw [hmk] at hgb
       rw [hmk,if_pos rfl] at hst
       repeat' (first | refine vs_ ?_ | ((first | refine vr_ ?_ | fail)<;>(try simp (disch:=first | omega | (simp only [List.length_set,List.length_append,List.length_cons,List.length_nil];done) | (simp only [List.length_set,List.length_append,List.length_cons,List.length_nil];omega)) only [hgi,hgb,qb,hkn,hk2,w0,hk3,qer,Nat.zero_add,Nat.mul_one,go_sem,↓reduceIte])) | ((first | (refine cs_ ?_ ?_<;>intro hc) | refine cj_ ?_ | simp (disch:=omega) only [encs_getN,qb])<;>(try refine ev_ ?_)) | with_reducible exact ti_)
       rotate_left 1
       ·exfalso;omega
       refine qf (i + 1) [0] ⟨by omega,by omega⟩ rfl (by simp) ?_ ?_ ?_<;>simp only [hst]<;>(try refine ev_ ?_)<;>(try with_reducible exact ti_)<;>(try simp (disch:=omega) only [qb,and_true,true_and])
     | false =>
       rw [hmk] at hgb
       rw [hmk,if_neg (by simp)] at hst
       have hu:=q5i hk1 hmk
       have hrec:=qmw hb hl f (m1.set k true) k (by simp;omega) (by omega) (by omega)
       repeat' (first | refine vs_ ?_ | ((first | refine vr_ ?_ | fail)<;>(try simp (disch:=first | omega | (simp only [List.length_set,List.length_append,List.length_cons,List.length_nil];done) | (simp only [List.length_set,List.length_append,List.length_cons,List.length_nil];omega)) only [hgi,hgb,qb,hkn,hk2,w0,hk3,qer,Nat.zero_add,Nat.mul_one,qvq,go_sem,↓reduceIte])) | ((first | (refine cs_ ?_ ?_<;>intro hc) | refine cj_ ?_ | simp (disch:=omega) only [encs_getN,qb])<;>(try refine ev_ ?_)) | with_reducible exact ti_)
       rotate_left 1
       ·exfalso;omega
       refine qcc 0 hrec ?_ (qub _ _) (qub _ _) (by simp) rfl rfl ?_ ?_
       ·simp only [qeq,List.set_cons_zero]
        repeat' (first | refine vs_ ?_ | ((first | refine vr_ ?_ | fail)<;>(try simp (disch:=first | omega | (simp only [List.length_set,List.length_append,List.length_cons,List.length_nil];done) | (simp only [List.length_set,List.length_append,List.length_cons,List.length_nil];omega)) only [qb,go_sem,↓reduceIte])) | ((first | (refine cs_ ?_ ?_<;>intro hc) | refine cj_ ?_ | simp (disch:=omega) only [encs_getN,qb])<;>(try refine ev_ ?_)) | with_reducible exact ti_)
        refine qf (i + 1) [0] ⟨by omega,by omega⟩ rfl (by simp) ?_ ?_ ?_<;>simp only [hst]<;>(try refine ev_ ?_)<;>(try with_reducible exact ti_)<;>(try simp (disch:=omega) only [qb,and_true,true_and])
       ·simp only [AV.rens,AV.ren,qom,List.append_nil];rfl
       ·simp only [AV.bds,AV.bd,qo0];rfl
    ·have hlt':¬ (i:Int) < (row.length:Int):=by omega
     rw [List.take_of_length_le (by omega)]
     repeat' (first | refine vs_ ?_ | ((first | refine vr_ ?_ | fail)<;>(try simp (disch:=first | omega | (simp only [List.length_set,List.length_append,List.length_cons,List.length_nil];done) | (simp only [List.length_set,List.length_append,List.length_cons,List.length_nil];omega)) only [qb,hlt',go_sem,↓reduceIte])) | ((first | (refine cs_ ?_ ?_<;>intro hc) | refine cj_ ?_ | simp (disch:=omega) only [encs_getN,qb])<;>(try refine ev_ ?_)) | with_reducible exact ti_)
set_option maxRecDepth 4000

theorem q8e:q0v = .reg false [⟨none,some 7,.alo (bl (List.replicate 1000 false))⟩]:=by kernel_rfl
def q09 (n:Nat) (es:List (Int×Int)) (v:Nat):List Bool:=frM (nxG n es) 1001 ((nxG n es).getD v []) (List.replicate 1000 false)
def upto (m:List Bool) (i:Nat):List Int:=((List.range i).filter fun v=>m.getD v true).map Int.ofNat
theorem q2q (m:List Bool) (i:Nat):upto m (i + 1) = upto m i ++ if m.getD i true = true then [(i:Int)] else []:=by
 unfold upto
 rw [List.range_succ,List.filter_append,List.map_append]
 congr 1
 rw [List.filter_cons,List.filter_nil]
 cases m.getD i true<;>rfl
theorem qbc3 (m:List Bool) (i:Nat):(upto m i).length≤i:=by
 unfold upto
 rw [List.length_map]
 exact Nat.le_trans (List.length_filter_le _ _) (by simp)
def rchG (n:Nat) (es:List (Int×Int)) (v:Nat):List Int:=if chkG n es = 0 then (if v < n then upto (q09 n es v) n else []) else []
theorem qb7a {n:Nat} {es:List (Int×Int)} (hes:es.length≤1000) (h:chkE n es = 0):∀ r∈nxG n es,r.length≤1000∧∀ w∈r,0≤w∧w < (nxG n es).length:=by
 intro r hr
 refine ⟨Nat.le_trans (q5q n es r hr) hes,?_⟩
 rw [qpp]
 have key:∀ (es:List (Int×Int)) (l:List (List Int)),(∀ e∈es,0≤e.2∧e.2 < (n:Int))->(∀ r∈l,∀ w∈r,0≤w∧w < (n:Int))->∀ r∈es.foldl nxS l,∀ w∈r,0≤w∧w < (n:Int):=fun es=>by
  induction es with
  | nil=>exact fun l _ hl=>hl
  | cons e t ih =>
    intro l he hl
    rw [List.foldl_cons]
    refine ih _ (fun x hx=>he x (by simp [hx])) fun r hr w hw=>?_
    rcases List.mem_or_eq_of_mem_set hr with hr | rfl
    ·exact hl r hr w hw
    ·rcases List.mem_append.1 hw with hw | hw
     ·by_cases hi:e.1.toNat < l.length
      ·exact hl _ (show l.getD e.1.toNat []∈l by rw [List.getD_eq_getElem?_getD,List.getElem?_eq_getElem hi];exact List.getElem_mem hi) w hw
      ·rw [List.getD_eq_getElem?_getD,List.getElem?_eq_none (by omega)] at hw;cases hw
     ·simp only [List.mem_singleton] at hw
      subst hw;exact he e (by simp)
 exact key es _ (fun e he=>(qtq h e he).2.2) (fun r hr w hw=>by rw [List.eq_of_mem_replicate hr] at hw;cases hw) r hr
set_option maxHeartbeats 400000 in
theorem qtx (n:Nat) (es:List (Int×Int)) (v:Nat) (hes:es.length≤1000) (hv:v < n):qk Tryz.prog 81 [.int .i64 n,.sl 2 (eds es),.int .i64 v] (.sl 1 (ints (rchG n es v))):=by
 refine qd c0g (by simp) (by simp only [go_sem]) (qdr 0 _) fun hw=>?_
 have hC:=qtu n es
 have hv0:¬ ((v:Int) < 0):=by omega
 have hvn:¬ ((n:Int)≤(v:Int)):=by omega
 unfold rchG
 unfold k0g
 by_cases hc:chkG n es = 0
 ·rw [if_pos hc,if_pos hv]
  rw [hc] at hC
  have hn:n≤1000:=by
   unfold chkG at hc
   split at hc
   ·cases hc
   ·omega
  have hce:chkE n es = 0:=by
   unfold chkG at hc
   rw [if_neg (by omega)] at hc;exact hc
  have hN:=qzr n es hn hes hce
  have hok:=qb7a hes hce
  have hlen:=qpp n es
  have hM:=qmw hok (by omega) 1001 (List.replicate 1000 false) v (by simp) (by omega) (by simp [unm])
  have hml:(q09 n es v).length = 1000:=by rw [q09,ql3];simp
  change VM Tryz.prog 109 _ (.blk (bl (q09 n es v))) _ _ at hM
  generalize q09 n es v = m at *
  rw [q8e]
  generalize List.replicate 1000 false = m0 at *
  generalize hz:IC.seq qbdj _ = z5
  repeat' (first | refine vs_ ?_ | ((first | refine vr_ ?_ | fail)<;>(try simp only [hv0,hvn,go_sem,↓reduceIte])) | ((first | (refine cs_ ?_ ?_<;>intro hc) | refine cj_ ?_ | simp (disch:=omega) only [encs_getN,qb] | refine qa hC fun _=>?_ | refine qa hN fun _=>?_)<;>(try refine ev_ ?_)) | with_reducible exact ti_)
  refine qcc 0 hM ?_ (qub _ _) (qub _ _) (by simp) rfl rfl ?_ ?_
  ·simp only [qeq,List.set_cons_zero]
   repeat' (first | refine vs_ ?_ | ((first | refine vr_ ?_ | fail)<;>(try simp (disch:=first | omega | (simp only [List.length_set,List.length_append,List.length_cons,List.length_nil];done) | (simp only [List.length_set,List.length_append,List.length_cons,List.length_nil];omega)) only [qb,go_sem,↓reduceIte])) | ((first | (refine cs_ ?_ ?_<;>intro hc) | refine cj_ ?_ | simp (disch:=omega) only [encs_getN,qb])<;>(try refine ev_ ?_)) | with_reducible exact ti_)
   subst hz
   have hnm:(n:Nat)≤maxLen:=by unfold maxLen;omega
   repeat' (first | refine vs_ ?_ | ((first | refine vr_ ?_ | fail)<;>(try simp (disch:=first | omega | (simp only [List.length_set,List.length_append,List.length_cons,List.length_nil];done) | (simp only [List.length_set,List.length_append,List.length_cons,List.length_nil];omega)) only [qb,go_sem,↓reduceIte])) | ((first | (refine cs_ ?_ ?_<;>intro hc) | refine cj_ ?_ | simp (disch:=omega) only [encs_getN,qb])<;>(try refine ev_ ?_)) | with_reducible exact ti_)
   refine qj (S:=Nat) (fun i=>i≤n) (fun i=>(⟨[(7,.ptr 0 0),(8,accV 1 (ints (upto m i))),(28,.int .i64 n),(29,.int .i64 i)],[]⟩,.blk (bl m) :: accE 1 (ints (upto m i)))) (fun i=>n - i) ?_ fun i hi=>?_
   ·have h00:upto m 0 = []:=rfl
    refine qf 0 [0] (Nat.zero_le _) rfl (by simp) ?_ ?_ ?_<;>simp only [h00,qhv,qo,qn]<;>(try refine ev_ ?_)<;>(try with_reducible exact ti_)<;>(try simp (disch:=omega) only [qb,and_true,true_and])
   ·have hul:=qbc3 m i
    have hcap1:qbb 1 8:=capI (by omega)
    have hcap:qbb ((upto m i).length + 1) 8:=capI (by omega)
    by_cases hlt:i < n
    ·have hi2:(i:Int) < ((1000:Nat):Int):=by omega
     have hi0:(0:Int)≤i:=by omega
     have hin:(i:Int).toNat = i:=by simp
     have him:i < m.length:=by omega
     have hgb:=q4b him
     have hsu:=q2q m i
     have hltI:(i:Int) < (n:Int):=by omega
     cases hmk:m.getD i true with
     | true =>
       rw [hmk] at hgb
       rw [hmk,if_pos rfl] at hsu
       by_cases h0:upto m i = []
       ·rw [h0,List.nil_append] at hsu
        simp only [h0,qhv,qo,qn]
        repeat' (first | refine vs_ ?_ | ((first | refine vr_ ?_ | fail)<;>(try simp (disch:=first | omega | (simp only [List.length_set,List.length_append,List.length_cons,List.length_nil];done) | (simp only [List.length_set,List.length_append,List.length_cons,List.length_nil];omega)) only [hgb,qb,hin,hi2,hi0,him,hltI,qer,Nat.zero_add,Nat.mul_one,q7,qby,go_sem,↓reduceIte])) | ((first | simp (disch:=omega) only [hcap1] | simp (disch:=omega) only [hcap] | (refine cs_ ?_ ?_<;>intro hc) | refine cj_ ?_ | simp (disch:=omega) only [encs_getN,qb])<;>(try refine ev_ ?_)) | with_reducible exact ti_)
        refine qf (i + 1) [0,1] ⟨by omega,by omega⟩ rfl (by simp) ?_ ?_ ?_<;>simp only [hsu,← qj6,qda,qdc]<;>(try refine ev_ ?_)<;>(try with_reducible exact ti_)<;>(try simp (disch:=omega) only [qb,and_true,true_and])
       ·simp only [qu (qgm h0),qv (qgm h0),qby]
        generalize upto m i = acc at *
        repeat' (first | refine vs_ ?_ | ((first | refine vr_ ?_ | fail)<;>(try simp (disch:=first | omega | (simp only [List.length_set,List.length_append,List.length_cons,List.length_nil];done) | (simp only [List.length_set,List.length_append,List.length_cons,List.length_nil];omega)) only [hgb,qb,hin,hi2,hi0,him,hltI,qer,Nat.zero_add,Nat.mul_one,q7,qby,go_sem,↓reduceIte])) | ((first | simp (disch:=omega) only [hcap1] | simp (disch:=omega) only [hcap] | (refine cs_ ?_ ?_<;>intro hc) | refine cj_ ?_ | simp (disch:=omega) only [encs_getN,qb])<;>(try refine ev_ ?_)) | with_reducible exact ti_)
        refine qf (i + 1) [0,2] ⟨by omega,by omega⟩ rfl (by simp) ?_ ?_ ?_<;>simp only [hsu,← qhj,qdj,qdh,qby]<;>(try refine ev_ ?_)<;>(try with_reducible exact ti_)<;>(try simp (disch:=omega) only [qb,and_true,true_and])
        all_goals (simp only [qhj];exact ⟨qdr _ _,by rw [qff]⟩)
     | false =>
       rw [hmk] at hgb
       rw [hmk,if_neg (by simp),List.append_nil] at hsu
       by_cases h0:upto m i = []
       ·rw [h0] at hsu
        simp only [h0,qhv,qo,qn]
        repeat' (first | refine vs_ ?_ | ((first | refine vr_ ?_ | fail)<;>(try simp (disch:=first | omega | (simp only [List.length_set,List.length_append,List.length_cons,List.length_nil];done) | (simp only [List.length_set,List.length_append,List.length_cons,List.length_nil];omega)) only [hgb,qb,hin,hi2,hi0,him,hltI,qer,Nat.zero_add,Nat.mul_one,q7,qby,go_sem,↓reduceIte])) | ((first | simp (disch:=omega) only [hcap1] | simp (disch:=omega) only [hcap] | (refine cs_ ?_ ?_<;>intro hc) | refine cj_ ?_ | simp (disch:=omega) only [encs_getN,qb])<;>(try refine ev_ ?_)) | with_reducible exact ti_)
        refine qf (i + 1) [0] ⟨by omega,by omega⟩ rfl (by simp) ?_ ?_ ?_<;>simp only [hsu,qhv,qo,qn]<;>(try refine ev_ ?_)<;>(try with_reducible exact ti_)<;>(try simp (disch:=omega) only [qb,and_true,true_and])
       ·simp only [qu (qgm h0),qv (qgm h0),qby]
        repeat' (first | refine vs_ ?_ | ((first | refine vr_ ?_ | fail)<;>(try simp (disch:=first | omega | (simp only [List.length_set,List.length_append,List.length_cons,List.length_nil];done) | (simp only [List.length_set,List.length_append,List.length_cons,List.length_nil];omega)) only [hgb,qb,hin,hi2,hi0,him,hltI,qer,Nat.zero_add,Nat.mul_one,q7,qby,go_sem,↓reduceIte])) | ((first | simp (disch:=omega) only [hcap1] | simp (disch:=omega) only [hcap] | (refine cs_ ?_ ?_<;>intro hc) | refine cj_ ?_ | simp (disch:=omega) only [encs_getN,qb])<;>(try refine ev_ ?_)) | with_reducible exact ti_)
        refine qf (i + 1) [0,1] ⟨by omega,by omega⟩ rfl (by simp) ?_ ?_ ?_<;>simp only [hsu,qu (qgm h0),qv (qgm h0),qby]<;>(try refine ev_ ?_)<;>(try with_reducible exact ti_)<;>(try simp (disch:=omega) only [qb,and_true,true_and])
    ·have hltI:¬ (i:Int) < (n:Int):=by omega
     have hin:i = n:=by omega
     subst hin
     by_cases h0:upto m i = []
     ·simp only [h0,qhv,qo,qn]
      repeat' (first | refine vs_ ?_ | ((first | refine vr_ ?_ | fail)<;>(try simp (disch:=first | omega | (simp only [List.length_set,List.length_append,List.length_cons,List.length_nil];done) | (simp only [List.length_set,List.length_append,List.length_cons,List.length_nil];omega)) only [qb,hltI,q7,go_sem,↓reduceIte])) | ((first | (refine cs_ ?_ ?_<;>intro hc) | refine cj_ ?_ | simp (disch:=omega) only [encs_getN,qb])<;>(try refine ev_ ?_)) | with_reducible exact ti_)
     ·simp only [qu (qgm h0),qv (qgm h0),qby]
      repeat' (first | refine vs_ ?_ | ((first | refine vr_ ?_ | fail)<;>(try simp (disch:=first | omega | (simp only [List.length_set,List.length_append,List.length_cons,List.length_nil];done) | (simp only [List.length_set,List.length_append,List.length_cons,List.length_nil];omega)) only [qb,hltI,qby,go_sem,↓reduceIte])) | ((first | (refine cs_ ?_ ?_<;>intro hc) | refine cj_ ?_ | simp (disch:=omega) only [encs_getN,qb])<;>(try refine ev_ ?_)) | with_reducible exact ti_)
  ·simp only [AV.rens,AV.ren,qom,List.append_nil];rfl
  ·simp only [AV.bds,AV.bd,qo0];rfl
 ·rw [if_neg hc]
  generalize hz:q0v = z3
  repeat' (first | refine vs_ ?_ | ((first | refine vr_ ?_ | fail)<;>(try simp only [hv0,hvn,hc,go_sem,↓reduceIte])) | ((first | (refine cs_ ?_ ?_<;>intro hc) | refine cj_ ?_ | simp (disch:=omega) only [encs_getN,qb] | refine qa hC fun _=>?_)<;>(try refine ev_ ?_)) | with_reducible exact ti_)
  all_goals first | rfl | (exfalso;omega) | skip
set_option maxRecDepth 4000

def c1 (l:List Cls):List Cls->Nat->Option Nat
 | [],_=>none
 | c :: r,i=>if atC c.name l 0 < i then some i else c1 l r (i + 1)
def c2 (l:List Cls):List Cls->Nat->Option Nat
 | [],_=>none
 | c :: r,i=>if knC l [] c.sup = true then c2 l r (i + 1) else some i
def c3 (l:List Cls):List Cls->Nat->Option Nat
 | [],_=>none
 | c :: r,i=>if (i:Int)∈rchG l.length (edC l l 0) i then some i else c3 l r (i + 1)
def chkC (l:List Cls):Int×Int :=
 match c1 l l 0 with
 | some i=>((i:Int),6)
 | none => match c2 l l 0 with
   | some i=>((i:Int),7)
   | none => match c3 l l 0 with
     | some i=>((i:Int),9)
     | none=>(0,0)
theorem qbjk {l:List Cls} {i:Nat} (h:i < l.length):c1 l (l.drop i) i = if atC (l.getD i C0).name l 0 < i then some i else c1 l (l.drop (i + 1)) (i + 1):=by rw [q2s h,c1]
theorem qbrm {l:List Cls} {i:Nat} (h:i < l.length):c2 l (l.drop i) i = if knC l [] (l.getD i C0).sup = true then c2 l (l.drop (i + 1)) (i + 1) else some i:=by rw [q2s h,c2]
theorem qbr0 {l:List Cls} {i:Nat} (h:i < l.length):c3 l (l.drop i) i = if (i:Int)∈rchG l.length (edC l l 0) i then some i else c3 l (l.drop (i + 1)) (i + 1):=by rw [q2s h,c3]
def prA (p:Int×Int):AV:=.tup [.int .i64 p.1,.int .i64 p.2]
set_option maxHeartbeats 1000000 in
theorem qf0 {l:List Cls} (hf:fewC l):qk Tryz.prog 48 [.sl 3 (qbs l)] (prA (chkC l)):=by
 refine qd c0e (by simp) (by simp only [go_sem]) rfl fun hw=>?_
 have hl:l.length≤maxLen:=(qgu hw.1).1
 have hE:=qrk hf
 have hel:(edC l l 0).length≤1000:=by
  have:=qtc l l 0 hf.2
  have:=hf.1
  omega
 unfold k0e
 generalize hz2:IC.seq (IC.seq qbd5 _) _ = z2
 repeat' (first | refine vs_ ?_ | ((first | refine vr_ ?_ | (refine cs_ ?_ ?_<;>intro hc) | refine cj_ ?_ | simp (disch:=omega) only [encs_getN,qb])<;>(try refine ev_ ?_)) | with_reducible exact ti_)
 refine qj (S:=Nat) (fun i=>i≤l.length∧c1 l (l.drop i) i = c1 l l 0) (fun i=>(⟨[(0,.sl 3 (qbs l)),(9,.int .i64 l.length),(10,.int .i64 i)],[]⟩,[])) (fun i=>l.length - i) ?_ fun i hi=>?_
 ·refine qf 0 [] ⟨Nat.zero_le _,rfl⟩ rfl (by simp) ?_ ?_ ?_<;>(try refine ev_ ?_)<;>(try with_reducible exact ti_)<;>(try simp (disch:=omega) only [qb,and_true,true_and])
 obtain ⟨hi,ha⟩:=hi
 by_cases hlt:i < l.length
 ·have hg:=qd7 hlt
  have hat:=qez l (l.getD i C0).name
  rw [qbjk hlt] at ha
  generalize atC (l.getD i C0).name l 0 = x at *
  by_cases hx:x < (i:Int)
  ·rw [if_pos hx] at ha
   repeat' (first | refine vs_ ?_ | ((first | refine vr_ ?_ | fail)<;>(try simp (disch:=first | omega | (simp only [List.length_set,List.length_append,List.length_cons,List.length_nil];done) | (simp only [List.length_set,List.length_append,List.length_cons,List.length_nil];omega)) only [hg,hx,qb,go_sem,↓reduceIte])) | ((first | simp (disch:=omega) only [hg] | (refine cs_ ?_ ?_<;>intro hc) | refine cj_ ?_ | simp (disch:=omega) only [encs_getN,qb] | refine qa hat fun _=>?_)<;>(try refine ev_ ?_)) | with_reducible exact ti_)
   all_goals first | (exfalso;omega) | (rw [chkC,← ha];rfl)
  ·rw [if_neg hx] at ha
   repeat' (first | refine vs_ ?_ | ((first | refine vr_ ?_ | fail)<;>(try simp (disch:=first | omega | (simp only [List.length_set,List.length_append,List.length_cons,List.length_nil];done) | (simp only [List.length_set,List.length_append,List.length_cons,List.length_nil];omega)) only [hg,hx,qb,go_sem,↓reduceIte])) | ((first | simp (disch:=omega) only [hg] | (refine cs_ ?_ ?_<;>intro hc) | refine cj_ ?_ | simp (disch:=omega) only [encs_getN,qb] | refine qa hat fun _=>?_)<;>(try refine ev_ ?_)) | with_reducible exact ti_)
   all_goals try (exfalso;omega)
   refine qf (i + 1) [] ⟨⟨by omega,ha⟩,by omega⟩ rfl (by simp) ?_ ?_ ?_<;>(try refine ev_ ?_)<;>(try with_reducible exact ti_)<;>(try simp (disch:=omega) only [qb,and_true,true_and])
 rw [List.drop_of_length_le (by omega),c1] at ha
 have hlt':¬ (i:Int) < (l.length:Int):=by omega
 repeat' (first | refine vs_ ?_ | ((first | refine vr_ ?_ | fail)<;>(try simp only [hlt',go_sem,↓reduceIte])) | ((first | (refine cs_ ?_ ?_<;>intro hc) | refine cj_ ?_ | simp (disch:=omega) only [encs_getN,qb])<;>(try refine ev_ ?_)) | with_reducible exact ti_)
 subst hz2
 generalize hz3:IC.seq q5k _ = z3
 repeat' (first | refine vs_ ?_ | ((first | refine vr_ ?_ | (refine cs_ ?_ ?_<;>intro hc) | refine cj_ ?_ | simp (disch:=omega) only [encs_getN,qb])<;>(try refine ev_ ?_)) | with_reducible exact ti_)
 clear hi hlt hlt'
 refine qj (S:=Nat) (fun i=>i≤l.length∧c2 l (l.drop i) i = c2 l l 0) (fun i=>(⟨[(0,.sl 3 (qbs l)),(25,.int .i64 l.length),(26,.int .i64 i)],[]⟩,[])) (fun i=>l.length - i) ?_ fun i hi=>?_
 ·refine qf 0 [] ⟨Nat.zero_le _,rfl⟩ rfl (by simp) ?_ ?_ ?_<;>(try refine ev_ ?_)<;>(try with_reducible exact ti_)<;>(try simp (disch:=omega) only [qb,and_true,true_and])
 obtain ⟨hi,hb⟩:=hi
 by_cases hlt:i < l.length
 ·have hg:=qd7 hlt
  have hat:=qq3 l (l.getD i C0)
  rw [qbrm hlt] at hb
  generalize knC l [] (l.getD i C0).sup = x at *
  cases x with
  | false =>
    rw [if_neg (by simp)] at hb
    repeat' (first | refine vs_ ?_ | ((first | refine vr_ ?_ | fail)<;>(try simp (disch:=first | omega | (simp only [List.length_set,List.length_append,List.length_cons,List.length_nil];done) | (simp only [List.length_set,List.length_append,List.length_cons,List.length_nil];omega)) only [hg,qb,go_sem,↓reduceIte])) | ((first | simp (disch:=omega) only [hg] | (refine cs_ ?_ ?_<;>intro hc) | refine cj_ ?_ | simp (disch:=omega) only [encs_getN,qb] | refine qa hat fun _=>?_)<;>(try refine ev_ ?_)) | with_reducible exact ti_)
    all_goals first | (exfalso;omega) | (rw [chkC,← ha,← hb];rfl)
  | true =>
    rw [if_pos rfl] at hb
    repeat' (first | refine vs_ ?_ | ((first | refine vr_ ?_ | fail)<;>(try simp (disch:=first | omega | (simp only [List.length_set,List.length_append,List.length_cons,List.length_nil];done) | (simp only [List.length_set,List.length_append,List.length_cons,List.length_nil];omega)) only [hg,qb,go_sem,↓reduceIte])) | ((first | simp (disch:=omega) only [hg] | (refine cs_ ?_ ?_<;>intro hc) | refine cj_ ?_ | simp (disch:=omega) only [encs_getN,qb] | refine qa hat fun _=>?_)<;>(try refine ev_ ?_)) | with_reducible exact ti_)
    all_goals try (exfalso;omega)
    refine qf (i + 1) [] ⟨⟨by omega,hb⟩,by omega⟩ rfl (by simp) ?_ ?_ ?_<;>(try refine ev_ ?_)<;>(try with_reducible exact ti_)<;>(try simp (disch:=omega) only [qb,and_true,true_and])
 rw [List.drop_of_length_le (by omega),c2] at hb
 have hlt':¬ (i:Int) < (l.length:Int):=by omega
 repeat' (first | refine vs_ ?_ | ((first | refine vr_ ?_ | fail)<;>(try simp only [hlt',go_sem,↓reduceIte])) | ((first | (refine cs_ ?_ ?_<;>intro hc) | refine cj_ ?_ | simp (disch:=omega) only [encs_getN,qb])<;>(try refine ev_ ?_)) | with_reducible exact ti_)
 subst hz3
 repeat' (first | refine vs_ ?_ | ((first | refine vr_ ?_ | refine qa hE fun _=>?_ | (refine cs_ ?_ ?_<;>intro hc) | refine cj_ ?_ | simp (disch:=omega) only [encs_getN,qb])<;>(try refine ev_ ?_)) | with_reducible exact ti_)
 clear hi hlt hlt'
 refine qj (S:=Nat) (fun i=>i≤l.length∧c3 l (l.drop i) i = c3 l l 0) (fun i=>(⟨[(0,.sl 3 (qbs l)),(6,.sl 2 (eds (edC l l 0))),(41,.int .i64 l.length),(42,.int .i64 i)],[]⟩,[])) (fun i=>l.length - i) ?_ fun i hi=>?_
 ·refine qf 0 [] ⟨Nat.zero_le _,rfl⟩ rfl (by simp) ?_ ?_ ?_<;>(try refine ev_ ?_)<;>(try with_reducible exact ti_)<;>(try simp (disch:=omega) only [qb,and_true,true_and])
 obtain ⟨hi,hcc⟩:=hi
 by_cases hlt:i < l.length
 ·have hR:=qtx l.length (edC l l 0) i hel hlt
  have hI:=qlm (rchG l.length (edC l l 0) i) (i:Int)
  rw [qbr0 hlt] at hcc
  by_cases hx:(i:Int)∈rchG l.length (edC l l 0) i
  ·rw [if_pos hx] at hcc
   rw [decide_eq_true hx] at hI
   generalize rchG l.length (edC l l 0) i = x at *
   repeat' (first | refine vs_ ?_ | ((first | refine vr_ ?_ | fail)<;>(try simp (disch:=first | omega | (simp only [List.length_set,List.length_append,List.length_cons,List.length_nil];done) | (simp only [List.length_set,List.length_append,List.length_cons,List.length_nil];omega)) only [qb,go_sem,↓reduceIte])) | ((first | (refine cs_ ?_ ?_<;>intro hc) | refine cj_ ?_ | simp (disch:=omega) only [encs_getN,qb] | refine qa hR fun _=>?_ | refine qa hI fun _=>?_)<;>(try refine ev_ ?_)) | with_reducible exact ti_)
   all_goals first | (exfalso;omega) | (rw [chkC,← ha,← hb,← hcc];rfl)
  ·rw [if_neg hx] at hcc
   rw [decide_eq_false hx] at hI
   generalize rchG l.length (edC l l 0) i = x at *
   repeat' (first | refine vs_ ?_ | ((first | refine vr_ ?_ | fail)<;>(try simp (disch:=first | omega | (simp only [List.length_set,List.length_append,List.length_cons,List.length_nil];done) | (simp only [List.length_set,List.length_append,List.length_cons,List.length_nil];omega)) only [qb,go_sem,↓reduceIte])) | ((first | (refine cs_ ?_ ?_<;>intro hc) | refine cj_ ?_ | simp (disch:=omega) only [encs_getN,qb] | refine qa hR fun _=>?_ | refine qa hI fun _=>?_)<;>(try refine ev_ ?_)) | with_reducible exact ti_)
   all_goals try (exfalso;omega)
   refine qf (i + 1) [] ⟨⟨by omega,hcc⟩,by omega⟩ rfl (by simp) ?_ ?_ ?_<;>(try refine ev_ ?_)<;>(try with_reducible exact ti_)<;>(try simp (disch:=omega) only [qb,and_true,true_and])
 rw [List.drop_of_length_le (by omega),c3] at hcc
 have hlt':¬ (i:Int) < (l.length:Int):=by omega
 repeat' (first | refine vs_ ?_ | ((first | refine vr_ ?_ | fail)<;>(try simp only [hlt',go_sem,↓reduceIte])) | ((first | (refine cs_ ?_ ?_<;>intro hc) | refine cj_ ?_ | simp (disch:=omega) only [encs_getN,qb])<;>(try refine ev_ ?_)) | with_reducible exact ti_)
 rw [chkC,← ha,← hb,← hcc];rfl
theorem qst {l:List Cls} (hf:fewC l):qk Tryz.prog 72 [.sl 3 (qbs l)] (.bool (decide ((chkC l).2 = 0))):=by
 refine qd c0f (by simp) (by simp only [go_sem]) rfl fun hw=>?_
 have hC:=qf0 hf
 unfold prA at hC
 repeat' (first | refine vs_ ?_ | ((first | refine vr_ ?_ | refine qa hC fun _=>?_ | (refine cs_ ?_ ?_<;>intro hc) | refine cj_ ?_ | fail)<;>(try refine ev_ ?_)) | with_reducible exact ti_)
end Go.Proofs.YtgglaabljlhliaaGreat
