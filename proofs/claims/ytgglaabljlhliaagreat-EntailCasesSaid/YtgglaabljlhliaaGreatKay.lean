/- Texts of this proof, joined. -/
import Derived.Test.YtgglaabljlhliaaGreatKax
import Derived.Test.YtgglaabljlhliaaGreatKak
set_option linter.unusedVariables false
set_option linter.unusedSimpArgs false

/- predicates: sameness, whether one is there, each once -/
set_option maxRecDepth 4000
namespace Go.Proofs.YtgglaabljlhliaaGreat
open Go Go.RowKit Go.V

def qyz (a b:Pd):Bool:=decide (a.cls = b.cls) && qgj a.ty b.ty
theorem q06 (a b:Pd):qyz a b = true ↔ a = b:=by
 rw [qyz,Bool.and_eq_true,decide_eq_true_eq,qj2]
 cases a;cases b;simp
theorem qy7 (p:Pd):AV.agg [.str p.ty.con,.int .i64 p.ty.var,.sl 3 (qq p.ty.args)] = encY p.ty:=qb5 _
theorem qmp (a b:Pd):qg Tryz.prog 36 [encP a,encP b] (.bool (qyz a b)):=by
 refine qd c0cx (by simp) (by simp only [go_sem]) rfl fun hw=>?_
 repeat' (first | refine vs_ ?_ | ((first | refine vr_ ?_ | refine qa (qxf _ _) fun _=>?_ | (refine cs_ ?_ ?_<;>intro hc) | refine cj_ ?_ | fail)<;>(try refine ev_ ?_)) | with_reducible exact ti_)
 all_goals simp [qyz, *]
set_option maxRecDepth 4000

def qg9:List Pd->List Pd->Bool
 | [],[]=>true
 | x :: r,y :: r'=>qyz x y && qg9 r r'
 | _,_=>false
theorem qp2:∀ l m,qg9 l m = true ↔ l = m
 | [],[]=>by simp [qg9]
 | [],y :: r=>by rw [qg9]<;>simp
 | x :: r,[]=>by rw [qg9]<;>simp
 | x :: r,y :: r'=>by rw [qg9,Bool.and_eq_true,q06,qp2 r r'];simp
theorem qzq {l m:List Pd} (h:l.length≠m.length):qg9 l m = false:=by
 cases hh:qg9 l m with
 | false=>rfl
 | true=>rw [(qp2 l m).1 hh] at h;exact absurd rfl h
theorem qnj {l m:List Pd} {i:Nat} (h:i < l.length) (h':i < m.length):qg9 (l.drop i) (m.drop i) = (qyz (l.getD i P0) (m.getD i P0) && qg9 (l.drop (i + 1)) (m.drop (i + 1))):=by
 rw [dropP h,dropP h',qg9]
theorem qbuu (l m:List Pd):qg Tryz.prog 18 [.sl 4 (qp l),.sl 4 (qp m)] (.bool (qg9 l m)):=by
 refine qd c0cu (by simp) (by simp only [go_sem]) rfl fun hw=>?_
 have hl:=(qc4 hw.1).1
 repeat' (first | refine vs_ ?_ | ((first | refine vr_ ?_ | (refine cs_ ?_ ?_<;>intro hc) | refine cj_ ?_ | simp (disch:=omega) only [encs_getN,qb])<;>(try refine ev_ ?_)) | with_reducible exact ti_)
 ·rw [qzq (by omega)]
 have hlm:l.length = m.length:=by omega
 refine qi (S:=Nat) (fun i=>i≤l.length∧qg9 (l.drop i) (m.drop i) = qg9 l m) (fun i=>(⟨[(0,.sl 4 (qp l)),(1,.sl 4 (qp m)),(5,.int .i64 i)],[]⟩,[])) (fun i=>l.length - i) ?_ fun i hi=>?_
 ·refine qf 0 [] ⟨Nat.zero_le _,rfl⟩ rfl (by simp) ?_ ?_ ?_<;>(try refine ev_ ?_)<;>(try with_reducible exact ti_)<;>(try simp (disch:=omega) only [qb,and_true,true_and])
 ·obtain ⟨hi,ha⟩:=hi
  repeat' (first | refine vs_ ?_ | ((first | refine vr_ ?_ | fail)<;>(try simp (disch:=first | omega | (simp only [List.length_set,List.length_append,List.length_cons,List.length_nil];done) | (simp only [List.length_set,List.length_append,List.length_cons,List.length_nil];omega)) only [qbt,qb,go_sem,↓reduceIte])) | ((first | (refine cs_ ?_ ?_<;>intro hc) | refine cj_ ?_ | simp (disch:=omega) only [encs_getN,qb] | refine qa (qmp _ _) fun _=>?_ | refine qc (qmp _ _) ?_)<;>(try refine ev_ ?_)) | with_reducible exact ti_)
  ·rename_i hc;rw [← ha,qnj (by omega) (by omega),hc];rfl
  ·rename_i hc
   refine qf (i + 1) [] ⟨⟨by omega,?_⟩,by omega⟩ rfl (by simp) ?_ ?_ ?_<;>(try refine ev_ ?_)<;>(try with_reducible exact ti_)<;>(try simp (disch:=omega) only [qb,and_true,true_and])
   rw [← ha,qnj (l:=l) (m:=m) (i:=i) (by omega) (by omega),hc,Bool.true_and]
  ·rw [← ha,List.drop_of_length_le (by omega),List.drop_of_length_le (by omega)];rfl
def q7 (p:Pd):Bool:=conW p.cls && qv p.ty
theorem qss {p:Pd} (h1:szY p.ty≤20000) (h2:dpY p.ty≤300):qg Tryz.prog 46 [encP p] (.bool (q7 p)):=by
 refine qd c0cv (by simp) (by simp only [go_sem]) rfl fun hw=>?_
 repeat' (first | refine vs_ ?_ | ((first | refine vr_ ?_ | refine qa (qh1 _) fun _=>?_ | refine qa (qdc h1 h2) fun _=>?_ | (refine cs_ ?_ ?_<;>intro hc) | refine cj_ ?_ | fail)<;>(try refine ev_ ?_)) | with_reducible exact ti_)
 all_goals simp [q7, *]
def fewP (l:List Pd):Bool:=decide (l.length≤30) && qm2 (l.map Pd.ty)
theorem qj4 {l:List Ty} (h:l≠[]):qq l≠[]:=by cases l with | nil=>exact absurd rfl h | cons _ _=>simp [qq]
theorem qcr:qq [] = []:=by rw [qq]
theorem qx7 (t:Ty):[encY t] = qq [t]:=by rw [qq,qq]
theorem qor (l:List Pd) (i:Nat) (h:i < l.length):(l.map Pd.ty).take (i + 1) = (l.map Pd.ty).take i ++ [(l.getD i P0).ty]:=by
 rw [List.take_add_one,List.getElem?_map,List.getElem?_eq_getElem h,List.getD_eq_getElem?_getD,List.getElem?_eq_getElem h];rfl
theorem capY {k:Nat} (h:k≤1000000000):qbe k 48:=by unfold qbe;omega
def q4f (l:List Pd) (i:Nat):AF×List Ent:=(⟨[(0,.sl 4 (qp l)),(3,accV 0 (qq ((l.map Pd.ty).take i))),(4,.int .i64 i)],[]⟩,accE 3 (qq ((l.map Pd.ty).take i)))
theorem qbv9 (l:List Pd):qg Tryz.prog 20 [.sl 4 (qp l)] (.int .i64 (if fewP l = true then 1 else 0)):=by
 refine qd c0cw (by simp) (by simp only [go_sem]) rfl fun hw=>?_
 have hl:=(qc4 hw.1).1
 repeat' (first | refine vs_ ?_ | ((first | refine vr_ ?_ | (refine cs_ ?_ ?_<;>intro hc) | refine cj_ ?_ | simp (disch:=omega) only [encs_getN,qb])<;>(try refine ev_ ?_)) | with_reducible exact ti_)
 ·rw [if_neg (by simp [fewP];omega)]
 have h30:l.length≤30:=by omega
 refine qi (S:=Nat) (fun i=>i≤l.length) (q4f l) (fun i=>l.length - i) ?_ fun i hi=>?_
 ·refine qf 0 [] (Nat.zero_le _) rfl (by simp) ?_ ?_ ?_<;>simp only [q4f,List.take_zero,qcr,qm,qn]<;>(try refine ev_ ?_)<;>(try with_reducible exact ti_)<;>(try simp (disch:=omega) only [qb,and_true,true_and])
 ·have hfin:fewP l = qm2 (l.map Pd.ty):=by rw [fewP,decide_eq_true h30,Bool.true_and]
  have hlm:((l.map Pd.ty).take i).length = i:=by rw [List.length_take,List.length_map];omega
  have hcap:qbe (i + 1) 48 = True:=eq_true (capY (by omega))
  unfold q4f
  by_cases hlt:i < l.length
  ·have hs:=qor l i hlt
   by_cases h0:i = 0
   ·subst h0
    simp only [List.take_zero,qcr,qm,qn]
    repeat' (first | refine vs_ ?_ | ((first | refine vr_ ?_ | fail)<;>(try simp (disch:=first | omega | (simp only [List.length_set,List.length_append,List.length_cons,List.length_nil];done) | (simp only [List.length_set,List.length_append,List.length_cons,List.length_nil];omega)) only [qbt,qb,qy7,go_sem,↓reduceIte])) | ((first | simp (disch:=omega) only [(show qbe 1 48 = True from eq_true (capY (by omega)))] | (refine cs_ ?_ ?_<;>intro hc) | refine cj_ ?_ | simp (disch:=omega) only [encs_getN,qb])<;>(try refine ev_ ?_)) | with_reducible exact ti_)
    ·refine qf 1 [0] ⟨by omega,by omega⟩ rfl (by simp) ?_ ?_ ?_<;>simp only [q4f,hs,List.take_zero,List.nil_append,← qx7,qc3,qc2]<;>(try refine ev_ ?_)<;>(try with_reducible exact ti_)<;>(try simp (disch:=omega) only [qb,and_true,true_and])
     all_goals (rw [qgy])
    ·omega
   ·have hne:(l.map Pd.ty).take i≠[]:=fun h=>h0 (by rw [← hlm,h];rfl)
    simp only [q8 (qj4 hne),q9 (qj4 hne),qbg,hlm]
    repeat' (first | refine vs_ ?_ | ((first | refine vr_ ?_ | fail)<;>(try simp (disch:=first | omega | (simp only [List.length_set,List.length_append,List.length_cons,List.length_nil];done) | (simp only [List.length_set,List.length_append,List.length_cons,List.length_nil];omega)) only [qbt,qb,qy7,qbg,hlm,go_sem,↓reduceIte])) | ((first | simp (disch:=omega) only [hcap] | (refine cs_ ?_ ?_<;>intro hc) | refine cj_ ?_ | simp (disch:=omega) only [encs_getN,qb])<;>(try refine ev_ ?_)) | with_reducible exact ti_)
    ·have hl2:qq ((l.map Pd.ty).take (i + 1)) = qq ((l.map Pd.ty).take i) ++ [encY (l.getD i P0).ty]:=by rw [hs,qel]
     refine qf (i + 1) [1] ⟨by omega,by omega⟩ rfl (by simp) ?_ ?_ ?_<;>simp only [q4f,hl2,qc9,qdh,qbg,hlm]<;>(try refine ev_ ?_)<;>(try with_reducible exact ti_)<;>(try simp (disch:=omega) only [qb,and_true,true_and])
     all_goals (simp only [qel];exact ⟨qb8 _ _,by rw [qd2]⟩)
    ·omega
  ·have hend:(l.map Pd.ty).take i = l.map Pd.ty:=List.take_of_length_le (by rw [List.length_map];omega)
   have hf:=qb4q (l.map Pd.ty)
   rw [hend,hfin]
   by_cases h0:l.map Pd.ty = []
   ·rw [h0] at hf ⊢
    simp only [qcr,qm,qn]
    repeat' (first | refine vs_ ?_ | ((first | refine vr_ ?_ | fail)<;>(try simp only [qu,go_sem,↓reduceIte])) | ((first | (refine cs_ ?_ ?_<;>intro hc) | refine cj_ ?_ | simp (disch:=omega) only [encs_getN,qb] | refine qa hf fun _=>?_)<;>(try refine ev_ ?_)) | with_reducible exact ti_)
    all_goals omega
   ·simp only [q8 (qj4 h0),q9 (qj4 h0),qbg]
    repeat' (first | refine vs_ ?_ | ((first | refine vr_ ?_ | fail)<;>(try simp only [qbg,go_sem,↓reduceIte])) | ((first | (refine cs_ ?_ ?_<;>intro hc) | refine cj_ ?_ | simp (disch:=omega) only [encs_getN,qb] | refine qa hf fun _=>?_)<;>(try refine ev_ ?_)) | with_reducible exact ti_)
    all_goals omega

/-! the reference's -/


def typA (p:Ty×Int):AV:=.tup [encY p.1,.int .i64 p.2]
theorem q4v (k:Nat) (p:Ty×Int):(typA p).bd k = true:=by simp only [typA,AV.bd,AV.bds,qb7,Bool.and_true]
end Go.Proofs.YtgglaabljlhliaaGreat
