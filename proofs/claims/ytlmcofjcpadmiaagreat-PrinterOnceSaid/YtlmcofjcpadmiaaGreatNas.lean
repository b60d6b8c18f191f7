/- A text of this proof. -/
import Derived.Test.YtlmcofjcpadmiaaGreatNai
set_option linter.unusedVariables false
set_option linter.unusedSimpArgs false

/-
 Words as data.
-/
namespace Go.V
open Go Go.RowKit

structure T where
 kind:Int
 pos:Int
 num:Int
 text:List UInt8
deriving DecidableEq

def T0:T:=⟨0,0,0,[]⟩
def encT (t:T):AV:=.agg [.int .i64 t.kind,.int .i64 t.pos,.int .i64 t.num,.str t.text]
def qec (l:List T):List AV:=l.map encT
theorem qbad (t:T):AV.agg [.int .i64 t.kind,.int .i64 t.pos,.int .i64 t.num,.str t.text] = encT t:=rfl
theorem q8u (t:T):(encT t).cells = [.int .i64 t.kind,.int .i64 t.pos,.int .i64 t.num,.str t.text]:=rfl
theorem q91 (k:Nat) (t:T):(encT t).bd k = true:=rfl
theorem qm3 (k:Nat) (l:List T):AV.bds k (qec l) = true:=by
 rw [qec,qq8,List.all_map,List.all_eq_true];exact fun x _=>q91 k x
theorem qbmb (σ:Nat->Nat) (t:T):(encT t).ren σ = encT t:=rfl
theorem qtx (σ:Nat->Nat) (l:List T):AV.rens σ (qec l) = qec l:=qb9 (m:=0) (fun i hi=>by omega) _ (qm3 0 l)
theorem qb9v (H:List Ent) (t:T):co H (.agg [.id,.id,.id,.id]) (encT t) = encT t:=by
 simp only [encT,qbfm,qyc,q2r,qbdn]
theorem qbfj (t:T):rdCo (.agg [.id,.id,.id,.id]) (encT t) = []:=by
 simp only [encT,qv5,qo1,qrh,q2p,List.append_nil]
theorem qbg2 (t:T):(encT t).isAgg = true:=rfl
theorem qzv (t:T):(encT t).leaf = false:=rfl
theorem qnn (l:List T):(qec l).length = l.length:=by simp [qec]
theorem qhe {l:List T} {i:Nat} (h:i < l.length):(qec l).getD i .junk = encT (l.getD i T0):=by
 rw [qec,List.getD_eq_getElem?_getD,List.getElem?_map,List.getElem?_eq_getElem h,List.getD_eq_getElem?_getD,List.getElem?_eq_getElem h];rfl
theorem q53 {l:List T} {i:Nat} (h:i < l.length):l.getD i T0∈l:=by
 rw [List.getD_eq_getElem?_getD,List.getElem?_eq_getElem h];exact List.getElem_mem h
theorem qbk5 {l:List T} {i:Nat} (h:i < l.length):l.drop i = l.getD i T0 :: l.drop (i + 1):=by
 rw [List.drop_eq_getElem_cons h,List.getD_eq_getElem?_getD,List.getElem?_eq_getElem h];rfl
theorem qrm (a:List T) (t:T):qec a ++ [encT t] = qec (a ++ [t]):=by simp [qec]
theorem qzg:qec [] = []:=rfl
theorem q8p (n:Nat) (l:List T):(qec l).take n = qec (l.take n):=by simp [qec]
theorem q8a (n:Nat) (l:List T):(qec l).drop n = qec (l.drop n):=by simp [qec]
theorem qbmz (b:Bool) (n off:Nat) (t:T):fldv b n off (encT t) = ldc b n off [.int .i64 t.kind,.int .i64 t.pos,.int .i64 t.num,.str t.text]:=rfl
attribute [go_sem] qbmz qbfj q91 qm3 qbmb qtx qb9v qbg2 q8u qbad qzv qnn q8p q8a
end Go.V
