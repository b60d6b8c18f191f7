/- A text of this proof. -/
import Derived.Test.YtgglaabljlhliaaGreatMak
set_option linter.unusedVariables false
set_option linter.unusedSimpArgs false

/- instances as data -/
namespace Go.V
open Go Go.RowKit

structure Ins where
 cls:List UInt8
 con:List UInt8
 n:Int
 ps:List Pd
def encI (x:Ins):AV:=.agg [.str x.cls,.str x.con,.int .i64 x.n,.sl 4 (qn x.ps)]
def qcx (l:List Ins):List AV:=l.map encI
def I0:Ins:=⟨[],[],0,[]⟩
abbrev idc (x:Ins):List AV:=[.str x.cls,.str x.con,.int .i64 x.n,.sl 4 (qn x.ps)]
theorem q1y (x:Ins):AV.agg [.str x.cls,.str x.con,.int .i64 x.n,.sl 4 (qn x.ps)] = encI x:=rfl
theorem qyw (x:Ins):(encI x).cells = idc x:=rfl
theorem qs3 (k:Nat) (x:Ins):(encI x).bd k = true:=by simp only [encI,AV.bd,AV.bds,qej,Bool.and_true]
theorem qnh (k:Nat) (l:List Ins):AV.bds k (qcx l) = true:=by rw [qcx,qb2,List.all_map,List.all_eq_true];exact fun x _=>qs3 k x
theorem q8h (σ:Nat->Nat) (x:Ins):(encI x).ren σ = encI x:=ren_same (m:=0) (fun i hi=>by omega) _ (qs3 0 x)
theorem q1o (σ:Nat->Nat) (l:List Ins):AV.rens σ (qcx l) = qcx l:=qj (m:=0) (fun i hi=>by omega) _ (qnh 0 l)
theorem qbos (H:List Ent) (x:Ins):co H (.agg [.id,.id,.id,.sl 4]) (encI x) = encI x:=by
 simp only [encI,qg4,qdk,qet,qka,qdo]
theorem q0n (x:Ins):rdCo (.agg [.id,.id,.id,.sl 4]) (encI x) = []:=by
 simp only [encI,qd5,qcm,qc7,qgt,qcn,List.append_nil]
theorem qba1 (x:Ins):(encI x).isAgg = true:=rfl
theorem qpb (x:Ins):(encI x).leaf = false:=rfl
theorem qp7 (l:List Ins):(qcx l).length = l.length:=by simp [qcx]
theorem qf0 {l:List Ins} {i:Nat} (h:i < l.length):(qcx l).getD i .junk = encI (l.getD i I0):=by
 rw [qcx,List.getD_eq_getElem?_getD,List.getElem?_map,List.getElem?_eq_getElem h,List.getD_eq_getElem?_getD,List.getElem?_eq_getElem h];rfl
theorem qef {l:List Ins} {i:Nat} (h:i < l.length):l.getD i I0∈l:=by
 rw [List.getD_eq_getElem?_getD,List.getElem?_eq_getElem h];exact List.getElem_mem h
theorem qbbm {l:List Ins} {i:Nat} (h:i < l.length):l.drop i = l.getD i I0 :: l.drop (i + 1):=by
 rw [List.drop_eq_getElem_cons h,List.getD_eq_getElem?_getD,List.getElem?_eq_getElem h];rfl
theorem qx1 (n:Nat) (l:List Ins):(qcx l).take n = qcx (l.take n):=by simp [qcx]
theorem qx7 (n:Nat) (l:List Ins):(qcx l).drop n = qcx (l.drop n):=by simp [qcx]
theorem q8v (b:Bool) (n off:Nat) (x:Ins):fldv b n off (encI x) = ldc b n off (idc x):=rfl
theorem q32 {x:Ins} (h:(encI x).wf):x.cls.length≤maxLen∧x.con.length≤maxLen∧(Lit.int .i64 x.n).wf = true∧(AV.sl 4 (qn x.ps)).wf:=by
 obtain ⟨h1,h2,h3,h4,_⟩:=h
 exact ⟨h1,h2,h3,h4⟩
theorem qhd {l:List Ins} {n:Nat} (h:(AV.sl n (qcx l)).wf):l.length≤maxLen∧∀ p∈l,(encI p).wf:=by
 refine ⟨by have:=h.1;rwa [qp7] at this,fun p hp=>(qn7 _).1 h.2 _ ?_⟩
 rw [qcx];exact List.mem_map_of_mem hp
attribute [go_sem] idc q8v q0n qs3 qnh q8h q1o qbos qba1 qyw q1y qpb qp7 qx1 qx7
end Go.V
