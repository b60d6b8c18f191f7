/- A text of this proof. -/
import Derived.Test.YtfjbmjplnmaclaaJai
set_option linter.unusedVariables false
set_option linter.unusedSimpArgs false

/-
 Words as data.
-/
namespace Go.V
open Go Go.RowKit

structure T where
 kind:Int
 pos:Int
 num:Int
 text:List UInt8
deriving DecidableEq

def T0:T:=⟨0,0,0,[]⟩
def encT (t:T):AV:=.agg [.int .i64 t.kind,.int .i64 t.pos,.int .i64 t.num,.str t.text]
def qdq (l:List T):List AV:=l.map encT
theorem q5q (t:T):AV.agg [.int .i64 t.kind,.int .i64 t.pos,.int .i64 t.num,.str t.text] = encT t:=rfl
theorem q37 (t:T):(encT t).cells = [.int .i64 t.kind,.int .i64 t.pos,.int .i64 t.num,.str t.text]:=rfl
theorem q6b (k:Nat) (t:T):(encT t).bd k = true:=rfl
theorem qlr (k:Nat) (l:List T):AV.bds k (qdq l) = true:=by
 rw [qdq,q03,List.all_map,List.all_eq_true];exact fun x _=>q6b k x
theorem qbeb (σ:Nat->Nat) (t:T):(encT t).ren σ = encT t:=rfl
theorem qon (σ:Nat->Nat) (l:List T):AV.rens σ (qdq l) = qdq l:=qb9 (m:=0) (fun i hi=>by omega) _ (qlr 0 l)
theorem qbgy (H:List Ent) (t:T):co H (.agg [.id,.id,.id,.id]) (encT t) = encT t:=by
 simp only [encT,q65,qsw,qx1,q7k]
theorem q45 (t:T):rdCo (.agg [.id,.id,.id,.id]) (encT t) = []:=by
 simp only [encT,qso,qml,qoz,qxr,List.append_nil]
theorem qbbh (t:T):(encT t).isAgg = true:=rfl
theorem qua (t:T):(encT t).leaf = false:=rfl
theorem qln (l:List T):(qdq l).length = l.length:=by simp [qdq]
theorem qf8 {l:List T} {i:Nat} (h:i < l.length):(qdq l).getD i .junk = encT (l.getD i T0):=by
 rw [qdq,List.getD_eq_getElem?_getD,List.getElem?_map,List.getElem?_eq_getElem h,List.getD_eq_getElem?_getD,List.getElem?_eq_getElem h];rfl
theorem qbab {l:List T} {i:Nat} (h:i < l.length):l.getD i T0∈l:=by
 rw [List.getD_eq_getElem?_getD,List.getElem?_eq_getElem h];exact List.getElem_mem h
theorem qbaw {l:List T} {i:Nat} (h:i < l.length):l.drop i = l.getD i T0 :: l.drop (i + 1):=by
 rw [List.drop_eq_getElem_cons h,List.getD_eq_getElem?_getD,List.getElem?_eq_getElem h];rfl
theorem qo8 (a:List T) (t:T):qdq a ++ [encT t] = qdq (a ++ [t]):=by simp [qdq]
theorem qu6:qdq [] = []:=rfl
theorem q3d (n:Nat) (l:List T):(qdq l).take n = qdq (l.take n):=by simp [qdq]
theorem q2i (n:Nat) (l:List T):(qdq l).drop n = qdq (l.drop n):=by simp [qdq]
theorem qbaq (b:Bool) (n off:Nat) (t:T):fldv b n off (encT t) = ldc b n off [.int .i64 t.kind,.int .i64 t.pos,.int .i64 t.num,.str t.text]:=rfl
attribute [go_sem] qbaq q45 q6b qlr qbeb qon qbgy qbbh q37 q5q qua qln q3d q2i
end Go.V
