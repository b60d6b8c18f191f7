/- A text of this proof. -/
import Derived.Test.YtgglaabljlhliaaGreatLal
set_option linter.unusedVariables false
set_option linter.unusedSimpArgs false

/- instances as data -/
namespace Go.V
open Go Go.RowKit

structure Ins where
 cls:List UInt8
 con:List UInt8
 n:Int
 ps:List Pd
def encI (x:Ins):AV:=.agg [.str x.cls,.str x.con,.int .i64 x.n,.sl 4 (qg x.ps)]
def qbv (l:List Ins):List AV:=l.map encI
def I0:Ins:=⟨[],[],0,[]⟩
abbrev idc (x:Ins):List AV:=[.str x.cls,.str x.con,.int .i64 x.n,.sl 4 (qg x.ps)]
theorem q4x (x:Ins):AV.agg [.str x.cls,.str x.con,.int .i64 x.n,.sl 4 (qg x.ps)] = encI x:=rfl
theorem qy8 (x:Ins):(encI x).cells = idc x:=rfl
theorem qu6 (k:Nat) (x:Ins):(encI x).bd k = true:=by simp only [encI,AV.bd,AV.bds,qbk,Bool.and_true]
theorem qg0 (k:Nat) (l:List Ins):AV.bds k (qbv l) = true:=by rw [qbv,qb9,List.all_map,List.all_eq_true];exact fun x _=>qu6 k x
theorem q9h (σ:Nat->Nat) (x:Ins):(encI x).ren σ = encI x:=ren_same (m:=0) (fun i hi=>by omega) _ (qu6 0 x)
theorem qc2 (σ:Nat->Nat) (l:List Ins):AV.rens σ (qbv l) = qbv l:=ql (m:=0) (fun i hi=>by omega) _ (qg0 0 l)
theorem qbig (H:List Ent) (x:Ins):co H (.agg [.id,.id,.id,.sl 4]) (encI x) = encI x:=by
 simp only [encI,qh9,qdz,qfh,ql2,qd1]
theorem q0i (x:Ins):rdCo (.agg [.id,.id,.id,.sl 4]) (encI x) = []:=by
 simp only [encI,qek,qcx,qdn,qhf,qcw,List.append_nil]
theorem q9j (x:Ins):(encI x).isAgg = true:=rfl
theorem qr3 (x:Ins):(encI x).leaf = false:=rfl
theorem qs6 (l:List Ins):(qbv l).length = l.length:=by simp [qbv]
theorem qe1 {l:List Ins} {i:Nat} (h:i < l.length):(qbv l).getD i .junk = encI (l.getD i I0):=by
 rw [qbv,List.getD_eq_getElem?_getD,List.getElem?_map,List.getElem?_eq_getElem h,List.getD_eq_getElem?_getD,List.getElem?_eq_getElem h];rfl
theorem qcq {l:List Ins} {i:Nat} (h:i < l.length):l.getD i I0∈l:=by
 rw [List.getD_eq_getElem?_getD,List.getElem?_eq_getElem h];exact List.getElem_mem h
theorem q4q {l:List Ins} {i:Nat} (h:i < l.length):l.drop i = l.getD i I0 :: l.drop (i + 1):=by
 rw [List.drop_eq_getElem_cons h,List.getD_eq_getElem?_getD,List.getElem?_eq_getElem h];rfl
theorem qzu (n:Nat) (l:List Ins):(qbv l).take n = qbv (l.take n):=by simp [qbv]
theorem qzo (n:Nat) (l:List Ins):(qbv l).drop n = qbv (l.drop n):=by simp [qbv]
theorem q6u (b:Bool) (n off:Nat) (x:Ins):fldv b n off (encI x) = ldc b n off (idc x):=rfl
theorem quc {x:Ins} (h:(encI x).wf):x.cls.length≤maxLen∧x.con.length≤maxLen∧(Lit.int .i64 x.n).wf = true∧(AV.sl 4 (qg x.ps)).wf:=by
 obtain ⟨h1,h2,h3,h4,_⟩:=h
 exact ⟨h1,h2,h3,h4⟩
theorem qe3 {l:List Ins} {n:Nat} (h:(AV.sl n (qbv l)).wf):l.length≤maxLen∧∀ p∈l,(encI p).wf:=by
 refine ⟨by have:=h.1;rwa [qs6] at this,fun p hp=>(qou _).1 h.2 _ ?_⟩
 rw [qbv];exact List.mem_map_of_mem hp
attribute [go_sem] idc q6u q0i qu6 qg0 q9h qc2 qbig q9j qy8 q4x qr3 qs6 qzu qzo
end Go.V
