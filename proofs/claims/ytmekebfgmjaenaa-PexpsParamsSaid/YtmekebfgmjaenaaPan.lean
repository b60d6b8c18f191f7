/- A text of this proof. -/
import Derived.Test.YtmekebfgmjaenaaPaf

/-
  Words as data.
-/
namespace Go.V
open Go Go.RowKit
set_option linter.unusedVariables false

structure T where
  kind : Int
  pos : Int
  num : Int
  text : List UInt8
deriving DecidableEq

def T0 : T := ⟨0, 0, 0, []⟩
def encT (t : T) : AV := .agg [.int .i64 t.kind, .int .i64 t.pos, .int .i64 t.num, .str t.text]
def qdg (l : List T) : List AV := l.map encT
theorem qz9 (t : T) : AV.agg [.int .i64 t.kind, .int .i64 t.pos, .int .i64 t.num, .str t.text] = encT t := rfl
theorem qxq (t : T) : (encT t).cells = [.int .i64 t.kind, .int .i64 t.pos, .int .i64 t.num, .str t.text] := rfl
theorem q0y (k : Nat) (t : T) : (encT t).bd k = true := rfl
theorem qjz (k : Nat) (l : List T) : AV.bds k (qdg l) = true := by
  rw [qdg, qw0, List.all_map, List.all_eq_true]; exact fun x _ => q0y k x
theorem q53 (σ : Nat → Nat) (t : T) : (encT t).ren σ = encT t := rfl
theorem qno (σ : Nat → Nat) (l : List T) : AV.rens σ (qdg l) = qdg l := qb4 (m := 0) (fun i hi => by omega) _ (qjz 0 l)
theorem qbbf (H : List Ent) (t : T) : co H (.agg [.id, .id, .id, .id]) (encT t) = encT t := by
  simp only [encT, q2a, qqq, qu2, qzl]
theorem q1n (t : T) : rdCo (.agg [.id, .id, .id, .id]) (encT t) = [] := by
  simp only [encT, qpy, qka, ql7, qt1, List.append_nil]
theorem q3o (t : T) : (encT t).isAgg = true := rfl
theorem qrp (t : T) : (encT t).leaf = false := rfl
theorem qjn (l : List T) : (qdg l).length = l.length := by simp [qdg]
theorem qfl {l : List T} {i : Nat} (h : i < l.length) : (qdg l).getD i .junk = encT (l.getD i T0) := by
  rw [qdg, List.getD_eq_getElem?_getD, List.getElem?_map, List.getElem?_eq_getElem h, List.getD_eq_getElem?_getD, List.getElem?_eq_getElem h]; rfl
theorem q3r {l : List T} {i : Nat} (h : i < l.length) : l.getD i T0 ∈ l := by
  rw [List.getD_eq_getElem?_getD, List.getElem?_eq_getElem h]; exact List.getElem_mem h
theorem qbes {l : List T} {i : Nat} (h : i < l.length) : l.drop i = l.getD i T0 :: l.drop (i + 1) := by
  rw [List.drop_eq_getElem_cons h, List.getD_eq_getElem?_getD, List.getElem?_eq_getElem h]; rfl
theorem qnv (a : List T) (t : T) : qdg a ++ [encT t] = qdg (a ++ [t]) := by simp [qdg]
theorem qrj : qdg [] = [] := rfl
theorem qw7 (n : Nat) (l : List T) : (qdg l).take n = qdg (l.take n) := by simp [qdg]
theorem qyh (n : Nat) (l : List T) : (qdg l).drop n = qdg (l.drop n) := by simp [qdg]
theorem q7b (b : Bool) (n off : Nat) (t : T) : fldv b n off (encT t) = ldc b n off [.int .i64 t.kind, .int .i64 t.pos, .int .i64 t.num, .str t.text] := rfl
attribute [go_sem] q7b q1n q0y qjz q53 qno qbbf q3o qxq qz9 qrp qjn qw7 qyh
end Go.V
