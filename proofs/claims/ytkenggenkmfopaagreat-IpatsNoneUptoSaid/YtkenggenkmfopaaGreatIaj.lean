/- A text of this proof. -/
import Derived.Test.YtkenggenkmfopaaGreatIah
set_option linter.unusedVariables false
set_option linter.unusedSimpArgs false

/- instances as data -/
namespace Go.V
open Go Go.RowKit

structure Ins where
 cls:List UInt8
 con:List UInt8
 n:Int
 ps:List Pd
def encI(x:Ins):AV:=.agg [.str x.cls,.str x.con,.int .i64 x.n,.sl 4 (qeh x.ps)]
def qf6(l:List Ins):List AV:=l.map encI
def I0:Ins:=⟨[],[],0,[]⟩
abbrev idc(x:Ins):List AV:=[.str x.cls,.str x.con,.int .i64 x.n,.sl 4 (qeh x.ps)]
theorem qbal(x:Ins):AV.agg [.str x.cls,.str x.con,.int .i64 x.n,.sl 4 (qeh x.ps)]=encI x:=rfl
theorem q3k(x:Ins):(encI x).cells=idc x:=rfl
theorem qw2(k:Nat)(x:Ins):(encI x).bd k=true:=by simp only[encI,AV.bd,AV.bds,qry,Bool.and_true]
theorem qra(k:Nat)(l:List Ins):AV.bds k (qf6 l)=true:=by rw[qf6,qb6,List.all_map,List.all_eq_true];exact fun x _=>qw2 k x
theorem qbew(σ:Nat->Nat)(x:Ins):(encI x).ren σ=encI x:=ren_same (m:=0) (fun i hi=>by omega) _ (qw2 0 x)
theorem q9v(σ:Nat->Nat)(l:List Ins):AV.rens σ (qf6 l)=qf6 l:=qs (m:=0) (fun i hi=>by omega) _ (qra 0 l)
theorem qb4z(H:List Ent)(x:Ins):co H (.agg [.id,.id,.id,.sl 4]) (encI x)=encI x:=by
 simp only[encI,qef,qcf,qcx,qgq,qcj]
theorem qbbn(x:Ins):rdCo (.agg [.id,.id,.id,.sl 4]) (encI x)=[]:=by
 simp only[encI,qce,qbi,qbq,qdh,qbk,List.append_nil]
theorem qbfd(x:Ins):(encI x).isAgg=true:=rfl
theorem qtr(x:Ins):(encI x).leaf=false:=rfl
theorem qu6(l:List Ins):(qf6 l).length=l.length:=by simp[qf6]
theorem q1y{l:List Ins}{i:Nat}(h:i<l.length):(qf6 l).getD i .junk=encI (l.getD i I0):=by
 rw[qf6,List.getD_eq_getElem?_getD,List.getElem?_map,List.getElem?_eq_getElem h,List.getD_eq_getElem?_getD,List.getElem?_eq_getElem h];rfl
theorem q5e{l:List Ins}{i:Nat}(h:i<l.length):l.getD i I0∈l:=by
 rw[List.getD_eq_getElem?_getD,List.getElem?_eq_getElem h];exact List.getElem_mem h
theorem q1u(n:Nat)(l:List Ins):(qf6 l).take n=qf6 (l.take n):=by simp[qf6]
theorem q4b(n:Nat)(l:List Ins):(qf6 l).drop n=qf6 (l.drop n):=by simp[qf6]
theorem qbjy(b:Bool)(n off:Nat)(x:Ins):fldv b n off (encI x)=ldc b n off (idc x):=rfl
theorem qbkf{l:List Ins}{n:Nat}(h:(AV.sl n (qf6 l)).wf):l.length≤maxLen∧∀p∈l,(encI p).wf:=by
 refine⟨by have:=h.1;rwa [qu6] at this,fun p hp=>(qi2 _).1 h.2 _ ?_⟩
 rw[qf6];exact List.mem_map_of_mem hp
attribute [go_sem] idc qbjy qbbn qw2 qra qbew q9v qb4z qbfd q3k qbal qtr qu6 q1u q4b
end Go.V
