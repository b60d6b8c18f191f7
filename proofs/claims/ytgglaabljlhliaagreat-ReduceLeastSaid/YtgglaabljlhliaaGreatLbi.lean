/- Texts of this proof, joined. -/
import Derived.Test.YtgglaabljlhliaaGreatLaz
import Derived.Test.YtgglaabljlhliaaGreatLbh
import Derived.Test.YtgglaabljlhliaaGreatLbg
set_option linter.unusedVariables false
set_option linter.unusedSimpArgs false

/- predicates: their text -/
namespace Go.Proofs.YtgglaabljlhliaaGreat
open Go Go.RowKit Go.V

theorem strings_Join {ls:List (List UInt8)} {sep:List UInt8} (hn:ls.length≤140737488355328) (hl:(Lib.join ls sep).length≤140737488355328):qk Tryz.prog 45 [.sl 1 (ls.map AV.str),.str sep] (.str (Lib.join ls sep)) :=
 qzd (by kernel_rfl) Tryz.strings_Join_none Tryz.strings_Join hn hl
def oneP (p:Pd):List UInt8:=p.cls ++ (32 :: parW (decide (p.ty.args≠[])) (qjx p.ty))
def ones (l:List Pd):List AV:=(l.map oneP).map AV.str
theorem q9r (l:List Pd):(ones l).length = l.length:=by simp [ones]
theorem q13 (k:Nat) (l:List Pd):AV.bds k (ones l) = true:=by rw [ones,qb9];simp [AV.bd]
theorem q9z (σ:Nat->Nat) (l:List Pd):AV.rens σ (ones l) = ones l:=ql (m:=0) (fun i hi=>by omega) _ (q13 0 l)
attribute [go_sem] q9r q13 q9z
set_option maxRecDepth 4000

set_option maxHeartbeats 1000000 in
theorem qll (x:Ins):qk Tryz.prog 51 [encI x] (.int .i64 (chkI x)):=by
 refine qd c0p (by simp) (by simp only [go_sem]) rfl fun hw=>?_
 have hl:=(qca (quc hw.1).2.2.2).1
 unfold k0p
 refine qcn (qh5 ?_)
 (refine ev_ ?_;(try with_reducible exact ti_))
 refine qmb (S:=Unit) (fun _=>True) (fun _=>(⟨[(1,.ptr 0 0),(3,.bool (hdI x))],[]⟩,[.blk (idc x)])) ?_ fun _ _=>?_
 ·repeat' (first | refine vs_ ?_ | ((first | refine vr_ ?_ | refine qa (qhk _) fun _=>?_ | (refine cs_ ?_ ?_<;>intro hc) | refine cj_ ?_ | simp (disch:=omega) only [encs_getN,qb])<;>(try refine ev_ ?_)) | with_reducible exact ti_)
  all_goals (refine qf () [0] trivial rfl (by simp) ?_ ?_ ?_<;>(try refine ev_ ?_)<;>(try with_reducible exact ti_)<;>(try simp (disch:=omega) only [qb,and_true,true_and]))
  all_goals simp_all [hdI,arrW]
  all_goals omega
 ·repeat' (first | refine vs_ ?_ | ((first | refine vr_ ?_ | (refine cs_ ?_ ?_<;>intro hc) | refine cj_ ?_ | simp (disch:=omega) only [encs_getN,qb])<;>(try refine ev_ ?_)) | with_reducible exact ti_)
  refine qj (S:=Nat) (fun i=>i≤x.ps.length) (fun i=>(⟨[(1,.ptr 0 0),(3,.bool (hdI x && (x.ps.take i).all (plnI x.n))),(35,.sl 4 (qg x.ps)),(36,.int .i64 x.ps.length),(37,.int .i64 i)],[]⟩,[.blk (idc x)])) (fun i=>x.ps.length - i) ?_ fun i hi=>?_
  ·refine qf 0 [0] (Nat.zero_le _) rfl (by simp) ?_ ?_ ?_<;>(try refine ev_ ?_)<;>(try with_reducible exact ti_)<;>(try simp (disch:=omega) only [qb,and_true,true_and])
   all_goals (simp)
  ·by_cases hlt:i < x.ps.length
   ·have hg:=q8 hlt
    have hpl:=qt7 (x.ps.getD i P0) x.n
    have hnx:(x.ps.take (i + 1)).all (plnI x.n) = ((x.ps.take i).all (plnI x.n) && plnI x.n (x.ps.getD i P0)):=by
     rw [qmz hlt,List.all_append];simp
    generalize hd:hdI x = d
    generalize ha:(x.ps.take i).all (plnI x.n) = a at hnx
    generalize hq:plnI x.n (x.ps.getD i P0) = q at hnx hpl
    cases d<;>cases a
    all_goals (repeat' (first | refine vs_ ?_ | ((first | refine vr_ ?_ | fail)<;>(try simp (disch:=first | omega | (simp only [List.length_set,List.length_append,List.length_cons,List.length_nil];done) | (simp only [List.length_set,List.length_append,List.length_cons,List.length_nil];omega)) only [hg,qb,go_sem,↓reduceIte])) | ((first | simp (disch:=omega) only [hg] | (refine cs_ ?_ ?_<;>intro hc) | refine cj_ ?_ | simp (disch:=omega) only [encs_getN,qb] | refine qa hpl fun _=>?_)<;>(try refine ev_ ?_)) | with_reducible exact ti_))
    all_goals try (exfalso;omega)
    all_goals (refine qf (i + 1) [0] ⟨by omega,by omega⟩ rfl (by simp) ?_ ?_ ?_<;>(try refine ev_ ?_)<;>(try with_reducible exact ti_)<;>(try simp (disch:=omega) only [qb,and_true,true_and]))
    all_goals (rw [hnx])
    all_goals rfl
   ·have hie:i = x.ps.length:=by omega
    subst hie
    rw [List.take_length]
    have hch:chkI x = if (hdI x && x.ps.all (plnI x.n)) = true then 0 else 10:=by rw [chkI];simp only [Bool.and_eq_true]
    rw [hch]
    generalize (hdI x && x.ps.all (plnI x.n)) = b
    cases b
    all_goals (repeat' (first | refine vs_ ?_ | ((first | refine vr_ ?_ | (refine cs_ ?_ ?_<;>intro hc) | refine cj_ ?_ | simp (disch:=omega) only [encs_getN,qb])<;>(try refine ev_ ?_)) | with_reducible exact ti_))
    all_goals try (exfalso;omega)
    all_goals rfl
end Go.Proofs.YtgglaabljlhliaaGreat
