/- Texts of this proof, joined. -/
import Derived.Test.YtgglaabljlhliaaGreatMax
import Derived.Test.YtgglaabljlhliaaGreatMak
set_option linter.unusedVariables false
set_option linter.unusedSimpArgs false

/- predicates: sameness, whether one is there, each once -/
set_option maxRecDepth 4000
namespace Go.Proofs.YtgglaabljlhliaaGreat
open Go Go.RowKit Go.V

def qx2 (a b:Pd):Bool:=decide (a.cls = b.cls) && qgg a.ty b.ty
theorem q25 (a b:Pd):qx2 a b = true ↔ a = b:=by
 rw [qx2,Bool.and_eq_true,decide_eq_true_eq,qjx]
 cases a;cases b;simp
theorem qz3 (p:Pd):AV.agg [.str p.ty.con,.int .i64 p.ty.var,.sl 3 (qt p.ty.args)] = encY p.ty:=qch _
theorem qmi (a b:Pd):qg Tryz.prog 36 [encP a,encP b] (.bool (qx2 a b)):=by
 refine qd c0cz (by simp) (by simp only [go_sem]) rfl fun hw=>?_
 repeat' (first | refine vs_ ?_ | ((first | refine vr_ ?_ | refine qa (qyj _ _) fun _=>?_ | (refine cs_ ?_ ?_<;>intro hc) | refine cj_ ?_ | fail)<;>(try refine ev_ ?_)) | with_reducible exact ti_)
 all_goals simp [qx2, *]
set_option maxRecDepth 4000

def qg8:List Pd->List Pd->Bool
 | [],[]=>true
 | x :: r,y :: r'=>qx2 x y && qg8 r r'
 | _,_=>false
theorem qra:∀ l m,qg8 l m = true ↔ l = m
 | [],[]=>by simp [qg8]
 | [],y :: r=>by rw [qg8]<;>simp
 | x :: r,[]=>by rw [qg8]<;>simp
 | x :: r,y :: r'=>by rw [qg8,Bool.and_eq_true,q25,qra r r'];simp
theorem qzu {l m:List Pd} (h:l.length≠m.length):qg8 l m = false:=by
 cases hh:qg8 l m with
 | false=>rfl
 | true=>rw [(qra l m).1 hh] at h;exact absurd rfl h
theorem qmu {l m:List Pd} {i:Nat} (h:i < l.length) (h':i < m.length):qg8 (l.drop i) (m.drop i) = (qx2 (l.getD i P0) (m.getD i P0) && qg8 (l.drop (i + 1)) (m.drop (i + 1))):=by
 rw [dropP h,dropP h',qg8]
theorem qbt8 (l m:List Pd):qg Tryz.prog 18 [.sl 4 (qn l),.sl 4 (qn m)] (.bool (qg8 l m)):=by
 refine qd c0cu (by simp) (by simp only [go_sem]) rfl fun hw=>?_
 have hl:=(qcq hw.1).1
 repeat' (first | refine vs_ ?_ | ((first | refine vr_ ?_ | (refine cs_ ?_ ?_<;>intro hc) | refine cj_ ?_ | simp (disch:=omega) only [encs_getN,qb])<;>(try refine ev_ ?_)) | with_reducible exact ti_)
 ·rw [qzu (by omega)]
 have hlm:l.length = m.length:=by omega
 refine qi (S:=Nat) (fun i=>i≤l.length∧qg8 (l.drop i) (m.drop i) = qg8 l m) (fun i=>(⟨[(0,.sl 4 (qn l)),(1,.sl 4 (qn m)),(5,.int .i64 i)],[]⟩,[])) (fun i=>l.length - i) ?_ fun i hi=>?_
 ·refine qf 0 [] ⟨Nat.zero_le _,rfl⟩ rfl (by simp) ?_ ?_ ?_<;>(try refine ev_ ?_)<;>(try with_reducible exact ti_)<;>(try simp (disch:=omega) only [qb,and_true,true_and])
 ·obtain ⟨hi,ha⟩:=hi
  repeat' (first | refine vs_ ?_ | ((first | refine vr_ ?_ | fail)<;>(try simp (disch:=first | omega | (simp only [List.length_set,List.length_append,List.length_cons,List.length_nil];done) | (simp only [List.length_set,List.length_append,List.length_cons,List.length_nil];omega)) only [qb1,qb,go_sem,↓reduceIte])) | ((first | (refine cs_ ?_ ?_<;>intro hc) | refine cj_ ?_ | simp (disch:=omega) only [encs_getN,qb] | refine qa (qmi _ _) fun _=>?_ | refine qc (qmi _ _) ?_)<;>(try refine ev_ ?_)) | with_reducible exact ti_)
  ·rename_i hc;rw [← ha,qmu (by omega) (by omega),hc];rfl
  ·rename_i hc
   refine qf (i + 1) [] ⟨⟨by omega,?_⟩,by omega⟩ rfl (by simp) ?_ ?_ ?_<;>(try refine ev_ ?_)<;>(try with_reducible exact ti_)<;>(try simp (disch:=omega) only [qb,and_true,true_and])
   rw [← ha,qmu (l:=l) (m:=m) (i:=i) (by omega) (by omega),hc,Bool.true_and]
  ·rw [← ha,List.drop_of_length_le (by omega),List.drop_of_length_le (by omega)];rfl
def qbk (p:Pd):Bool:=conW p.cls && qx p.ty
theorem qsl {p:Pd} (h1:szY p.ty≤20000) (h2:dpY p.ty≤300):qg Tryz.prog 46 [encP p] (.bool (qbk p)):=by
 refine qd c0cv (by simp) (by simp only [go_sem]) rfl fun hw=>?_
 repeat' (first | refine vs_ ?_ | ((first | refine vr_ ?_ | refine qa (qg6 _) fun _=>?_ | refine qa (qda h1 h2) fun _=>?_ | (refine cs_ ?_ ?_<;>intro hc) | refine cj_ ?_ | fail)<;>(try refine ev_ ?_)) | with_reducible exact ti_)
 all_goals simp [qbk, *]
theorem qlb {p:Pd} (h1:szY p.ty≤20000) (h2:dpY p.ty≤300):qg Tryz.prog 13 [encP p] (.bool (qbk p)):=by
 refine qd c0cw (by simp) (by simp only [go_sem]) rfl fun hw=>?_
 repeat' (first | refine vs_ ?_ | ((first | refine vr_ ?_ | refine qa (qpw _) fun _=>?_ | refine qa (qt7 h1 h2) fun _=>?_ | (refine cs_ ?_ ?_<;>intro hc) | refine cj_ ?_ | fail)<;>(try refine ev_ ?_)) | with_reducible exact ti_)
 all_goals simp [qbk, *]
theorem q14 (l:List Pd) (h:∀ p∈l,szY p.ty≤20000∧dpY p.ty≤300):qg Tryz.prog 9 [.sl 4 (qn l)] (.bool (l.all qbk)):=by
 refine qd c0cx (by simp) (by simp only [go_sem]) rfl fun hw=>?_
 have hl:=(qcq hw.1).1
 repeat' (first | refine vs_ ?_ | ((first | refine vr_ ?_ | (refine cs_ ?_ ?_<;>intro hc) | refine cj_ ?_ | simp (disch:=omega) only [encs_getN,qb])<;>(try refine ev_ ?_)) | with_reducible exact ti_)
 refine qi (S:=Nat) (fun i=>i≤l.length∧(l.drop i).all qbk = l.all qbk) (fun i=>(⟨[(0,.sl 4 (qn l)),(3,.int .i64 i)],[]⟩,[])) (fun i=>l.length - i) ?_ fun i hi=>?_
 ·refine qf 0 [] ⟨Nat.zero_le _,rfl⟩ rfl (by simp) ?_ ?_ ?_<;>(try refine ev_ ?_)<;>(try with_reducible exact ti_)<;>(try simp (disch:=omega) only [qb,and_true,true_and])
 ·obtain ⟨hi,ha⟩:=hi
  repeat' (first | refine vs_ ?_ | ((first | refine vr_ ?_ | fail)<;>(try simp (disch:=first | omega | (simp only [List.length_set,List.length_append,List.length_cons,List.length_nil];done) | (simp only [List.length_set,List.length_append,List.length_cons,List.length_nil];omega)) only [qb1,qb,go_sem,↓reduceIte])) | ((first | (refine cs_ ?_ ?_<;>intro hc) | refine cj_ ?_ | simp (disch:=omega) only [encs_getN,qb] | refine qa (qlb (h _ (qf8 (by omega))).1 (h _ (qf8 (by omega))).2) fun _=>?_ | refine qc (qlb (h _ (qf8 (by omega))).1 (h _ (qf8 (by omega))).2) ?_)<;>(try refine ev_ ?_)) | with_reducible exact ti_)
  ·rename_i hc;rw [← ha,dropP (by omega),List.all_cons,hc];rfl
  ·rename_i hc
   refine qf (i + 1) [] ⟨⟨by omega,?_⟩,by omega⟩ rfl (by simp) ?_ ?_ ?_<;>(try refine ev_ ?_)<;>(try with_reducible exact ti_)<;>(try simp (disch:=omega) only [qb,and_true,true_and])
   rw [← ha,dropP (l:=l) (i:=i) (by omega),List.all_cons,hc,Bool.true_and]
  ·rw [← ha,List.drop_of_length_le (by omega)];rfl
def fewP (l:List Pd):Bool:=decide (l.length≤30) && qmy (l.map Pd.ty)
theorem qjr {l:List Ty} (h:l≠[]):qt l≠[]:=by cases l with | nil=>exact absurd rfl h | cons _ _=>simp [qt]
theorem qkw:qt [] = []:=by rw [qt]
theorem qyk (t:Ty):[encY t] = qt [t]:=by rw [qt,qt]
theorem qn6 (l:List Pd) (i:Nat) (h:i < l.length):(l.map Pd.ty).take (i + 1) = (l.map Pd.ty).take i ++ [(l.getD i P0).ty]:=by
 rw [List.take_add_one,List.getElem?_map,List.getElem?_eq_getElem h,List.getD_eq_getElem?_getD,List.getElem?_eq_getElem h];rfl
theorem capY {k:Nat} (h:k≤1000000000):qbc k 48:=by unfold qbc;omega
def q3y (l:List Pd) (i:Nat):AF×List Ent:=(⟨[(0,.sl 4 (qn l)),(3,accV 0 (qt ((l.map Pd.ty).take i))),(4,.int .i64 i)],[]⟩,accE 3 (qt ((l.map Pd.ty).take i)))
theorem qb2h (l:List Pd):qg Tryz.prog 20 [.sl 4 (qn l)] (.int .i64 (if fewP l = true then 1 else 0)):=by
 refine qd c0cy (by simp) (by simp only [go_sem]) rfl fun hw=>?_
 have hl:=(qcq hw.1).1
 repeat' (first | refine vs_ ?_ | ((first | refine vr_ ?_ | (refine cs_ ?_ ?_<;>intro hc) | refine cj_ ?_ | simp (disch:=omega) only [encs_getN,qb])<;>(try refine ev_ ?_)) | with_reducible exact ti_)
 ·rw [if_neg (by simp [fewP];omega)]
 have h30:l.length≤30:=by omega
 refine qi (S:=Nat) (fun i=>i≤l.length) (q3y l) (fun i=>l.length - i) ?_ fun i hi=>?_
 ·refine qf 0 [] (Nat.zero_le _) rfl (by simp) ?_ ?_ ?_<;>simp only [q3y,List.take_zero,qkw,qu,qv]<;>(try refine ev_ ?_)<;>(try with_reducible exact ti_)<;>(try simp (disch:=omega) only [qb,and_true,true_and])
 ·have hfin:fewP l = qmy (l.map Pd.ty):=by rw [fewP,decide_eq_true h30,Bool.true_and]
  have hlm:((l.map Pd.ty).take i).length = i:=by rw [List.length_take,List.length_map];omega
  have hcap:qbc (i + 1) 48 = True:=eq_true (capY (by omega))
  unfold q3y
  by_cases hlt:i < l.length
  ·have hs:=qn6 l i hlt
   by_cases h0:i = 0
   ·subst h0
    simp only [List.take_zero,qkw,qu,qv]
    repeat' (first | refine vs_ ?_ | ((first | refine vr_ ?_ | fail)<;>(try simp (disch:=first | omega | (simp only [List.length_set,List.length_append,List.length_cons,List.length_nil];done) | (simp only [List.length_set,List.length_append,List.length_cons,List.length_nil];omega)) only [qb1,qb,qz3,go_sem,↓reduceIte])) | ((first | simp (disch:=omega) only [(show qbc 1 48 = True from eq_true (capY (by omega)))] | (refine cs_ ?_ ?_<;>intro hc) | refine cj_ ?_ | simp (disch:=omega) only [encs_getN,qb])<;>(try refine ev_ ?_)) | with_reducible exact ti_)
    ·refine qf 1 [0] ⟨by omega,by omega⟩ rfl (by simp) ?_ ?_ ?_<;>simp only [q3y,hs,List.take_zero,List.nil_append,← qyk,qew,qev]<;>(try refine ev_ ?_)<;>(try with_reducible exact ti_)<;>(try simp (disch:=omega) only [qb,and_true,true_and])
     all_goals (rw [qo9])
    ·omega
   ·have hne:(l.map Pd.ty).take i≠[]:=fun h=>h0 (by rw [← hlm,h];rfl)
    simp only [qbm (qjr hne),qbn (qjr hne),qbs,hlm]
    repeat' (first | refine vs_ ?_ | ((first | refine vr_ ?_ | fail)<;>(try simp (disch:=first | omega | (simp only [List.length_set,List.length_append,List.length_cons,List.length_nil];done) | (simp only [List.length_set,List.length_append,List.length_cons,List.length_nil];omega)) only [qb1,qb,qz3,qbs,hlm,go_sem,↓reduceIte])) | ((first | simp (disch:=omega) only [hcap] | (refine cs_ ?_ ?_<;>intro hc) | refine cj_ ?_ | simp (disch:=omega) only [encs_getN,qb])<;>(try refine ev_ ?_)) | with_reducible exact ti_)
    ·have hl2:qt ((l.map Pd.ty).take (i + 1)) = qt ((l.map Pd.ty).take i) ++ [encY (l.getD i P0).ty]:=by rw [hs,qfe]
     refine qf (i + 1) [1] ⟨by omega,by omega⟩ rfl (by simp) ?_ ?_ ?_<;>simp only [q3y,hl2,qe9,qfl,qbs,hlm]<;>(try refine ev_ ?_)<;>(try with_reducible exact ti_)<;>(try simp (disch:=omega) only [qb,and_true,true_and])
     all_goals (simp only [qfe];exact ⟨qck _ _,by rw [qfh]⟩)
    ·omega
  ·have hend:(l.map Pd.ty).take i = l.map Pd.ty:=List.take_of_length_le (by rw [List.length_map];omega)
   have hf:=qb3v (l.map Pd.ty)
   rw [hend,hfin]
   by_cases h0:l.map Pd.ty = []
   ·rw [h0] at hf ⊢
    simp only [qkw,qu,qv]
    repeat' (first | refine vs_ ?_ | ((first | refine vr_ ?_ | fail)<;>(try simp only [qbb,go_sem,↓reduceIte])) | ((first | (refine cs_ ?_ ?_<;>intro hc) | refine cj_ ?_ | simp (disch:=omega) only [encs_getN,qb] | refine qa hf fun _=>?_)<;>(try refine ev_ ?_)) | with_reducible exact ti_)
    all_goals omega
   ·simp only [qbm (qjr h0),qbn (qjr h0),qbs]
    repeat' (first | refine vs_ ?_ | ((first | refine vr_ ?_ | fail)<;>(try simp only [qbs,go_sem,↓reduceIte])) | ((first | (refine cs_ ?_ ?_<;>intro hc) | refine cj_ ?_ | simp (disch:=omega) only [encs_getN,qb] | refine qa hf fun _=>?_)<;>(try refine ev_ ?_)) | with_reducible exact ti_)
    all_goals omega

/-! the reference's -/


def typA (p:Ty×Int):AV:=.tup [encY p.1,.int .i64 p.2]
theorem q2t (k:Nat) (p:Ty×Int):(typA p).bd k = true:=by simp only [typA,AV.bd,AV.bds,qcb,Bool.and_true]
end Go.Proofs.YtgglaabljlhliaaGreat
