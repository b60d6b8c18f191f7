/- A text of this proof. -/
import Derived.Test.YtfjbmjplnmaclaaOaf

/-
  Words as data.
-/
namespace Go.V
open Go Go.RowKit
set_option linter.unusedVariables false

structure T where
  kind : Int
  pos : Int
  num : Int
  text : List UInt8
deriving DecidableEq

def T0 : T := ⟨0, 0, 0, []⟩
def encT (t : T) : AV := .agg [.int .i64 t.kind, .int .i64 t.pos, .int .i64 t.num, .str t.text]
def qd4 (l : List T) : List AV := l.map encT
theorem q24 (t : T) : AV.agg [.int .i64 t.kind, .int .i64 t.pos, .int .i64 t.num, .str t.text] = encT t := rfl
theorem q2s (t : T) : (encT t).cells = [.int .i64 t.kind, .int .i64 t.pos, .int .i64 t.num, .str t.text] := rfl
theorem q3e (k : Nat) (t : T) : (encT t).bd k = true := rfl
theorem qld (k : Nat) (l : List T) : AV.bds k (qd4 l) = true := by
  rw [qd4, qzi, List.all_map, List.all_eq_true]; exact fun x _ => q3e k x
theorem qbap (σ : Nat → Nat) (t : T) : (encT t).ren σ = encT t := rfl
theorem qpg (σ : Nat → Nat) (l : List T) : AV.rens σ (qd4 l) = qd4 l := qcj (m := 0) (fun i hi => by omega) _ (qld 0 l)
theorem qbqf (H : List Ent) (t : T) : co H (.agg [.id, .id, .id, .id]) (encT t) = encT t := by
  simp only [encT, q69, qss, qyh, q6h]
theorem q7o (t : T) : rdCo (.agg [.id, .id, .id, .id]) (encT t) = [] := by
  simp only [encT, qs5, qmn, qp3, qye, List.append_nil]
theorem q9b (t : T) : (encT t).isAgg = true := rfl
theorem qus (t : T) : (encT t).leaf = false := rfl
theorem qlf (l : List T) : (qd4 l).length = l.length := by simp [qd4]
theorem qgg {l : List T} {i : Nat} (h : i < l.length) : (qd4 l).getD i .junk = encT (l.getD i T0) := by
  rw [qd4, List.getD_eq_getElem?_getD, List.getElem?_map, List.getElem?_eq_getElem h, List.getD_eq_getElem?_getD, List.getElem?_eq_getElem h]; rfl
theorem qbcj {l : List T} {i : Nat} (h : i < l.length) : l.getD i T0 ∈ l := by
  rw [List.getD_eq_getElem?_getD, List.getElem?_eq_getElem h]; exact List.getElem_mem h
theorem qbla {l : List T} {i : Nat} (h : i < l.length) : l.drop i = l.getD i T0 :: l.drop (i + 1) := by
  rw [List.drop_eq_getElem_cons h, List.getD_eq_getElem?_getD, List.getElem?_eq_getElem h]; rfl
theorem qpm (a : List T) (t : T) : qd4 a ++ [encT t] = qd4 (a ++ [t]) := by simp [qd4]
theorem qwh : qd4 [] = [] := rfl
theorem q1w (n : Nat) (l : List T) : (qd4 l).take n = qd4 (l.take n) := by simp [qd4]
theorem q16 (n : Nat) (l : List T) : (qd4 l).drop n = qd4 (l.drop n) := by simp [qd4]
theorem q9n (b : Bool) (n off : Nat) (t : T) : fldv b n off (encT t) = ldc b n off [.int .i64 t.kind, .int .i64 t.pos, .int .i64 t.num, .str t.text] := rfl
attribute [go_sem] q9n q7o q3e qld qbap qpg qbqf q9b q2s q24 qus qlf q1w q16
end Go.V
