/- A text of this proof. -/
import Derived.Test.YtgglaabljlhliaaGreatKak
set_option linter.unusedVariables false
set_option linter.unusedSimpArgs false

/- instances as data -/
namespace Go.V
open Go Go.RowKit

structure Ins where
 cls:List UInt8
 con:List UInt8
 n:Int
 ps:List Pd
def encI (x:Ins):AV:=.agg [.str x.cls,.str x.con,.int .i64 x.n,.sl 4 (qp x.ps)]
def qcy (l:List Ins):List AV:=l.map encI
def I0:Ins:=⟨[],[],0,[]⟩
abbrev idc (x:Ins):List AV:=[.str x.cls,.str x.con,.int .i64 x.n,.sl 4 (qp x.ps)]
theorem q2z (x:Ins):AV.agg [.str x.cls,.str x.con,.int .i64 x.n,.sl 4 (qp x.ps)] = encI x:=rfl
theorem qxs (x:Ins):(encI x).cells = idc x:=rfl
theorem qsn (k:Nat) (x:Ins):(encI x).bd k = true:=by simp only [encI,AV.bd,AV.bds,qea,Bool.and_true]
theorem qo1 (k:Nat) (l:List Ins):AV.bds k (qcy l) = true:=by rw [qcy,qb2,List.all_map,List.all_eq_true];exact fun x _=>qsn k x
theorem q5n (σ:Nat->Nat) (x:Ins):(encI x).ren σ = encI x:=ren_same (m:=0) (fun i hi=>by omega) _ (qsn 0 x)
theorem q4m (σ:Nat->Nat) (l:List Ins):AV.rens σ (qcy l) = qcy l:=qj (m:=0) (fun i hi=>by omega) _ (qo1 0 l)
theorem qbot (H:List Ent) (x:Ins):co H (.agg [.id,.id,.id,.sl 4]) (encI x) = encI x:=by
 simp only [encI,qh7,qdo,qer,qlc,qds]
theorem q10 (x:Ins):rdCo (.agg [.id,.id,.id,.sl 4]) (encI x) = []:=by
 simp only [encI,qd7,qcm,qda,qgz,qco,List.append_nil]
theorem q7h (x:Ins):(encI x).isAgg = true:=rfl
theorem qrl (x:Ins):(encI x).leaf = false:=rfl
theorem qqw (l:List Ins):(qcy l).length = l.length:=by simp [qcy]
theorem qf4 {l:List Ins} {i:Nat} (h:i < l.length):(qcy l).getD i .junk = encI (l.getD i I0):=by
 rw [qcy,List.getD_eq_getElem?_getD,List.getElem?_map,List.getElem?_eq_getElem h,List.getD_eq_getElem?_getD,List.getElem?_eq_getElem h];rfl
theorem qdy {l:List Ins} {i:Nat} (h:i < l.length):l.getD i I0∈l:=by
 rw [List.getD_eq_getElem?_getD,List.getElem?_eq_getElem h];exact List.getElem_mem h
theorem qbcc {l:List Ins} {i:Nat} (h:i < l.length):l.drop i = l.getD i I0 :: l.drop (i + 1):=by
 rw [List.drop_eq_getElem_cons h,List.getD_eq_getElem?_getD,List.getElem?_eq_getElem h];rfl
theorem qxa (n:Nat) (l:List Ins):(qcy l).take n = qcy (l.take n):=by simp [qcy]
theorem qw1 (n:Nat) (l:List Ins):(qcy l).drop n = qcy (l.drop n):=by simp [qcy]
theorem q5b (b:Bool) (n off:Nat) (x:Ins):fldv b n off (encI x) = ldc b n off (idc x):=rfl
theorem q2b {x:Ins} (h:(encI x).wf):x.cls.length≤maxLen∧x.con.length≤maxLen∧(Lit.int .i64 x.n).wf = true∧(AV.sl 4 (qp x.ps)).wf:=by
 obtain ⟨h1,h2,h3,h4,_⟩:=h
 exact ⟨h1,h2,h3,h4⟩
theorem qg5 {l:List Ins} {n:Nat} (h:(AV.sl n (qcy l)).wf):l.length≤maxLen∧∀ p∈l,(encI p).wf:=by
 refine ⟨by have:=h.1;rwa [qqw] at this,fun p hp=>(qo0 _).1 h.2 _ ?_⟩
 rw [qcy];exact List.mem_map_of_mem hp
attribute [go_sem] idc q5b q10 qsn qo1 q5n q4m qbot q7h qxs q2z qrl qqw qxa qw1
end Go.V
