/- A text of this proof. -/
import Derived.Test.YtlmcofjcpadmiaaGreatDai
set_option linter.unusedVariables false
set_option linter.unusedSimpArgs false

/-
 Words as data.
-/
namespace Go.V
open Go Go.RowKit

structure T where
 kind:Int
 pos:Int
 num:Int
 text:List UInt8
deriving DecidableEq

def T0:T:=⟨0,0,0,[]⟩
def encT (t:T):AV:=.agg [.int .i64 t.kind,.int .i64 t.pos,.int .i64 t.num,.str t.text]
def qdo (l:List T):List AV:=l.map encT
theorem q83 (t:T):AV.agg [.int .i64 t.kind,.int .i64 t.pos,.int .i64 t.num,.str t.text] = encT t:=rfl
theorem q1t (t:T):(encT t).cells = [.int .i64 t.kind,.int .i64 t.pos,.int .i64 t.num,.str t.text]:=rfl
theorem q8c (k:Nat) (t:T):(encT t).bd k = true:=rfl
theorem qk1 (k:Nat) (l:List T):AV.bds k (qdo l) = true:=by
 rw [qdo,qn8,List.all_map,List.all_eq_true];exact fun x _=>q8c k x
theorem qbat (σ:Nat->Nat) (t:T):(encT t).ren σ = encT t:=rfl
theorem qp1 (σ:Nat->Nat) (l:List T):AV.rens σ (qdo l) = qdo l:=qbw (m:=0) (fun i hi=>by omega) _ (qk1 0 l)
theorem qb5a (H:List Ent) (t:T):co H (.agg [.id,.id,.id,.id]) (encT t) = encT t:=by
 simp only [encT,q8o,qtm,qxv,q4b]
theorem q3j (t:T):rdCo (.agg [.id,.id,.id,.id]) (encT t) = []:=by
 simp only [encT,qsd,ql2,qpl,qyc,List.append_nil]
theorem qbaq (t:T):(encT t).isAgg = true:=rfl
theorem qvz (t:T):(encT t).leaf = false:=rfl
theorem qle (l:List T):(qdo l).length = l.length:=by simp [qdo]
theorem qf0 {l:List T} {i:Nat} (h:i < l.length):(qdo l).getD i .junk = encT (l.getD i T0):=by
 rw [qdo,List.getD_eq_getElem?_getD,List.getElem?_map,List.getElem?_eq_getElem h,List.getD_eq_getElem?_getD,List.getElem?_eq_getElem h];rfl
theorem qbrw {l:List T} {i:Nat} (h:i < l.length):l.drop i = l.getD i T0 :: l.drop (i + 1):=by
 rw [List.drop_eq_getElem_cons h,List.getD_eq_getElem?_getD,List.getElem?_eq_getElem h];rfl
theorem qn1 (a:List T) (t:T):qdo a ++ [encT t] = qdo (a ++ [t]):=by simp [qdo]
theorem qwi:qdo [] = []:=rfl
theorem q1s (n:Nat) (l:List T):(qdo l).take n = qdo (l.take n):=by simp [qdo]
theorem q10 (n:Nat) (l:List T):(qdo l).drop n = qdo (l.drop n):=by simp [qdo]
theorem qbah (b:Bool) (n off:Nat) (t:T):fldv b n off (encT t) = ldc b n off [.int .i64 t.kind,.int .i64 t.pos,.int .i64 t.num,.str t.text]:=rfl
attribute [go_sem] qbah q3j q8c qk1 qbat qp1 qb5a qbaq q1t q83 qvz qle q1s q10
end Go.V
