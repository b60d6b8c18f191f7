/- A text of this proof. -/
import Derived.Test.YtlmcofjcpadmiaaGreatBai

/-
 Words as data.
-/
namespace Go.V
open Go Go.RowKit
set_option linter.unusedVariables false

structure T where
 kind : Int
 pos : Int
 num : Int
 text : List UInt8
deriving DecidableEq

def T0 : T := ⟨0, 0, 0, []⟩
def encT (t : T) : AV := .agg [.int .i64 t.kind, .int .i64 t.pos, .int .i64 t.num, .str t.text]
def qc6 (l : List T) : List AV := l.map encT
theorem q0a (t : T) : AV.agg [.int .i64 t.kind, .int .i64 t.pos, .int .i64 t.num, .str t.text] = encT t := rfl
theorem qxi (t : T) : (encT t).cells = [.int .i64 t.kind, .int .i64 t.pos, .int .i64 t.num, .str t.text] := rfl
theorem q14 (k : Nat) (t : T) : (encT t).bd k = true := rfl
theorem qjq (k : Nat) (l : List T) : AV.bds k (qc6 l) = true := by
 rw [qc6, qmq, List.all_map, List.all_eq_true]; exact fun x _ => q14 k x
theorem q7u (σ : Nat → Nat) (t : T) : (encT t).ren σ = encT t := rfl
theorem qmu (σ : Nat → Nat) (l : List T) : AV.rens σ (qc6 l) = qc6 l := qbg (m := 0) (fun i hi => by omega) _ (qjq 0 l)
theorem qbnh (H : List Ent) (t : T) : co H (.agg [.id, .id, .id, .id]) (encT t) = encT t := by
 simp only [encT, q1u, qqn, que, q3b]
theorem q1l (t : T) : rdCo (.agg [.id, .id, .id, .id]) (encT t) = [] := by
 simp only [encT, qp8, qj9, qm9, quj, List.append_nil]
theorem q6i (t : T) : (encT t).isAgg = true := rfl
theorem qsb (t : T) : (encT t).leaf = false := rfl
theorem qi8 (l : List T) : (qc6 l).length = l.length := by simp [qc6]
theorem qe6 {l : List T} {i : Nat} (h : i < l.length) : (qc6 l).getD i .junk = encT (l.getD i T0) := by
 rw [qc6, List.getD_eq_getElem?_getD, List.getElem?_map, List.getElem?_eq_getElem h, List.getD_eq_getElem?_getD, List.getElem?_eq_getElem h]; rfl
theorem qbq5 {l : List T} {i : Nat} (h : i < l.length) : l.drop i = l.getD i T0 :: l.drop (i + 1) := by
 rw [List.drop_eq_getElem_cons h, List.getD_eq_getElem?_getD, List.getElem?_eq_getElem h]; rfl
theorem qnf (a : List T) (t : T) : qc6 a ++ [encT t] = qc6 (a ++ [t]) := by simp [qc6]
theorem qtv : qc6 [] = [] := rfl
theorem qym (n : Nat) (l : List T) : (qc6 l).take n = qc6 (l.take n) := by simp [qc6]
theorem qyu (n : Nat) (l : List T) : (qc6 l).drop n = qc6 (l.drop n) := by simp [qc6]
theorem q9p (b : Bool) (n off : Nat) (t : T) : fldv b n off (encT t) = ldc b n off [.int .i64 t.kind, .int .i64 t.pos, .int .i64 t.num, .str t.text] := rfl
attribute [go_sem] q9p q1l q14 qjq q7u qmu qbnh q6i qxi q0a qsb qi8 qym qyu
end Go.V
