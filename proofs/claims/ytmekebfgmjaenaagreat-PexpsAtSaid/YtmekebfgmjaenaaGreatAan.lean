/- A text of this proof. -/
import Derived.Test.YtmekebfgmjaenaaGreatAaf

/-
  Words as data.
-/
namespace Go.V
open Go Go.RowKit
set_option linter.unusedVariables false

structure T where
  kind : Int
  pos : Int
  num : Int
  text : List UInt8
deriving DecidableEq

def T0 : T := ⟨0, 0, 0, []⟩
def encT (t : T) : AV := .agg [.int .i64 t.kind, .int .i64 t.pos, .int .i64 t.num, .str t.text]
def qc1 (l : List T) : List AV := l.map encT
theorem qzy (t : T) : AV.agg [.int .i64 t.kind, .int .i64 t.pos, .int .i64 t.num, .str t.text] = encT t := rfl
theorem qyr (t : T) : (encT t).cells = [.int .i64 t.kind, .int .i64 t.pos, .int .i64 t.num, .str t.text] := rfl
theorem q16 (k : Nat) (t : T) : (encT t).bd k = true := rfl
theorem qhu (k : Nat) (l : List T) : AV.bds k (qc1 l) = true := by
  rw [qc1, qvn, List.all_map, List.all_eq_true]; exact fun x _ => q16 k x
theorem q8g (σ : Nat → Nat) (t : T) : (encT t).ren σ = encT t := rfl
theorem qij (σ : Nat → Nat) (l : List T) : AV.rens σ (qc1 l) = qc1 l := qcn (m := 0) (fun i hi => by omega) _ (qhu 0 l)
theorem qbnc (H : List Ent) (t : T) : co H (.agg [.id, .id, .id, .id]) (encT t) = encT t := by
  simp only [encT, q1u, qqt, qt1, q2v]
theorem qy0 (t : T) : rdCo (.agg [.id, .id, .id, .id]) (encT t) = [] := by
  simp only [encT, qrb, qkx, qnm, qul, List.append_nil]
theorem q9i (t : T) : (encT t).isAgg = true := rfl
theorem qtd (t : T) : (encT t).leaf = false := rfl
theorem qfb (l : List T) : (qc1 l).length = l.length := by simp [qc1]
theorem qdu {l : List T} {i : Nat} (h : i < l.length) : (qc1 l).getD i .junk = encT (l.getD i T0) := by
  rw [qc1, List.getD_eq_getElem?_getD, List.getElem?_map, List.getElem?_eq_getElem h, List.getD_eq_getElem?_getD, List.getElem?_eq_getElem h]; rfl
theorem q5x {l : List T} {i : Nat} (h : i < l.length) : l.getD i T0 ∈ l := by
  rw [List.getD_eq_getElem?_getD, List.getElem?_eq_getElem h]; exact List.getElem_mem h
theorem q6e {l : List T} {i : Nat} (h : i < l.length) : l.drop i = l.getD i T0 :: l.drop (i + 1) := by
  rw [List.drop_eq_getElem_cons h, List.getD_eq_getElem?_getD, List.getElem?_eq_getElem h]; rfl
theorem qgu (a : List T) (t : T) : qc1 a ++ [encT t] = qc1 (a ++ [t]) := by simp [qc1]
theorem qgp : qc1 [] = [] := rfl
theorem qwy (n : Nat) (l : List T) : (qc1 l).take n = qc1 (l.take n) := by simp [qc1]
theorem qxx (n : Nat) (l : List T) : (qc1 l).drop n = qc1 (l.drop n) := by simp [qc1]
theorem q7h (b : Bool) (n off : Nat) (t : T) : fldv b n off (encT t) = ldc b n off [.int .i64 t.kind, .int .i64 t.pos, .int .i64 t.num, .str t.text] := rfl
attribute [go_sem] q7h qy0 q16 qhu q8g qij qbnc q9i qyr qzy qtd qfb qwy qxx
end Go.V
