/- A text of this proof. -/
import Derived.Test.YtkenggenkmfopaaGreatIag
set_option linter.unusedVariables false
set_option linter.unusedSimpArgs false

/-
 Words as data.
-/
namespace Go.V
open Go Go.RowKit

structure T where
 kind:Int
 pos:Int
 num:Int
 text:List UInt8
deriving DecidableEq

def T0:T:=⟨0,0,0,[]⟩
def encT(t:T):AV:=.agg [.int .i64 t.kind,.int .i64 t.pos,.int .i64 t.num,.str t.text]
def encTs(l:List T):List AV:=l.map encT
theorem qeb(t:T):AV.agg [.int .i64 t.kind,.int .i64 t.pos,.int .i64 t.num,.str t.text]=encT t:=rfl
theorem encT_cells(t:T):(encT t).cells=[.int .i64 t.kind,.int .i64 t.pos,.int .i64 t.num,.str t.text]:=rfl
theorem encT_bd(k:Nat)(t:T):(encT t).bd k=true:=rfl
theorem encTs_bd(k:Nat)(l:List T):AV.bds k (encTs l)=true:=by
 rw[encTs,qb6,List.all_map,List.all_eq_true];exact fun x _=>encT_bd k x
theorem encT_ren(σ:Nat->Nat)(t:T):(encT t).ren σ=encT t:=rfl
theorem encTs_ren(σ:Nat->Nat)(l:List T):AV.rens σ (encTs l)=encTs l:=qs (m:=0) (fun i hi=>by omega) _ (encTs_bd 0 l)
theorem qxg(H:List Ent)(t:T):co H (.agg [.id,.id,.id,.id]) (encT t)=encT t:=by
 simp only[encT,qef,qcf,qcx,qgq]
theorem qn9(t:T):rdCo (.agg [.id,.id,.id,.id]) (encT t)=[]:=by
 simp only[encT,qce,qbi,qbq,qdh,List.append_nil]
theorem encT_agg(t:T):(encT t).isAgg=true:=rfl
theorem qho(t:T):(encT t).leaf=false:=rfl
theorem qft(l:List T):(encTs l).length=l.length:=by simp[encTs]
theorem qfw{l:List T}{i:Nat}(h:i<l.length):(encTs l).getD i .junk=encT (l.getD i T0):=by
 rw[encTs,List.getD_eq_getElem?_getD,List.getElem?_map,List.getElem?_eq_getElem h,List.getD_eq_getElem?_getD,List.getElem?_eq_getElem h];rfl
theorem qny(a:List T)(t:T):encTs a++[encT t]=encTs (a++[t]):=by simp[encTs]
theorem qtd:encTs []=[]:=rfl
theorem qpt(n:Nat)(l:List T):(encTs l).take n=encTs (l.take n):=by simp[encTs]
theorem qpn(n:Nat)(l:List T):(encTs l).drop n=encTs (l.drop n):=by simp[encTs]
theorem qre(b:Bool)(n off:Nat)(t:T):fldv b n off (encT t)=ldc b n off [.int .i64 t.kind,.int .i64 t.pos,.int .i64 t.num,.str t.text]:=rfl
attribute [go_sem] qre qn9 encT_bd encTs_bd encT_ren encTs_ren qxg encT_agg encT_cells qeb qho qft qpt qpn
end Go.V
