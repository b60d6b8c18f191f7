/- A text of this proof. -/
import Derived.Test.YtfjbmjplnmaclaaGreatPah

/-
 Words as data.
-/
namespace Go.V
open Go Go.RowKit
set_option linter.unusedVariables false

structure T where
 kind : Int
 pos : Int
 num : Int
 text : List UInt8
deriving DecidableEq

def T0 : T := ⟨0, 0, 0, []⟩
def encT (t : T) : AV := .agg [.int .i64 t.kind, .int .i64 t.pos, .int .i64 t.num, .str t.text]
def qcv (l : List T) : List AV := l.map encT
theorem qbbg (t : T) : AV.agg [.int .i64 t.kind, .int .i64 t.pos, .int .i64 t.num, .str t.text] = encT t := rfl
theorem q4a (t : T) : (encT t).cells = [.int .i64 t.kind, .int .i64 t.pos, .int .i64 t.num, .str t.text] := rfl
theorem q9d (k : Nat) (t : T) : (encT t).bd k = true := rfl
theorem qil (k : Nat) (l : List T) : AV.bds k (qcv l) = true := by
 rw [qcv, q2e, List.all_map, List.all_eq_true]; exact fun x _ => q9d k x
theorem qbhm (σ : Nat → Nat) (t : T) : (encT t).ren σ = encT t := rfl
theorem qku (σ : Nat → Nat) (l : List T) : AV.rens σ (qcv l) = qcv l := qcl (m := 0) (fun i hi => by omega) _ (qil 0 l)
theorem qb4n (H : List Ent) (t : T) : co H (.agg [.id, .id, .id, .id]) (encT t) = encT t := by
 simp only [encT, qbat, qvk, q0v, q80]
theorem q7y (t : T) : rdCo (.agg [.id, .id, .id, .id]) (encT t) = [] := by
 simp only [encT, qv4, qoh, qq7, q0i, List.append_nil]
theorem qbir (t : T) : (encT t).isAgg = true := rfl
theorem qyg (t : T) : (encT t).leaf = false := rfl
theorem qf7 (l : List T) : (qcv l).length = l.length := by simp [qcv]
theorem qd0 {l : List T} {i : Nat} (h : i < l.length) : (qcv l).getD i .junk = encT (l.getD i T0) := by
 rw [qcv, List.getD_eq_getElem?_getD, List.getElem?_map, List.getElem?_eq_getElem h, List.getD_eq_getElem?_getD, List.getElem?_eq_getElem h]; rfl
theorem q17 {l : List T} {i : Nat} (h : i < l.length) : l.getD i T0 ∈ l := by
 rw [List.getD_eq_getElem?_getD, List.getElem?_eq_getElem h]; exact List.getElem_mem h
theorem qbg5 {l : List T} {i : Nat} (h : i < l.length) : l.drop i = l.getD i T0 :: l.drop (i + 1) := by
 rw [List.drop_eq_getElem_cons h, List.getD_eq_getElem?_getD, List.getElem?_eq_getElem h]; rfl
theorem qf9 (a : List T) (t : T) : qcv a ++ [encT t] = qcv (a ++ [t]) := by simp [qcv]
theorem qh0 : qcv [] = [] := rfl
theorem q4k (n : Nat) (l : List T) : (qcv l).take n = qcv (l.take n) := by simp [qcv]
theorem q36 (n : Nat) (l : List T) : (qcv l).drop n = qcv (l.drop n) := by simp [qcv]
theorem qbgb (b : Bool) (n off : Nat) (t : T) : fldv b n off (encT t) = ldc b n off [.int .i64 t.kind, .int .i64 t.pos, .int .i64 t.num, .str t.text] := rfl
attribute [go_sem] qbgb q7y q9d qil qbhm qku qb4n qbir q4a qbbg qyg qf7 q4k q36
end Go.V
