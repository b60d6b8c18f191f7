/- A text of this proof. -/
import Derived.Test.YtmekebfgmjaenaaGreatAaf

/-
  Words as data.
-/
namespace Go.V
open Go Go.RowKit
set_option linter.unusedVariables false

structure T where
  kind : Int
  pos : Int
  num : Int
  text : List UInt8
deriving DecidableEq

def T0 : T := ⟨0, 0, 0, []⟩
def encT (t : T) : AV := .agg [.int .i64 t.kind, .int .i64 t.pos, .int .i64 t.num, .str t.text]
def qcy (l : List T) : List AV := l.map encT
theorem qzj (t : T) : AV.agg [.int .i64 t.kind, .int .i64 t.pos, .int .i64 t.num, .str t.text] = encT t := rfl
theorem qx8 (t : T) : (encT t).cells = [.int .i64 t.kind, .int .i64 t.pos, .int .i64 t.num, .str t.text] := rfl
theorem q0j (k : Nat) (t : T) : (encT t).bd k = true := rfl
theorem qhs (k : Nat) (l : List T) : AV.bds k (qcy l) = true := by
  rw [qcy, qvs, List.all_map, List.all_eq_true]; exact fun x _ => q0j k x
theorem q42 (σ : Nat → Nat) (t : T) : (encT t).ren σ = encT t := rfl
theorem qiu (σ : Nat → Nat) (l : List T) : AV.rens σ (qcy l) = qcy l := qck (m := 0) (fun i hi => by omega) _ (qhs 0 l)
theorem qbqh (H : List Ent) (t : T) : co H (.agg [.id, .id, .id, .id]) (encT t) = encT t := by
  simp only [encT, q01, qq1, qva, q0b]
theorem q3d (t : T) : rdCo (.agg [.id, .id, .id, .id]) (encT t) = [] := by
  simp only [encT, qqz, qlb, qnb, que, List.append_nil]
theorem q7e (t : T) : (encT t).isAgg = true := rfl
theorem qs1 (t : T) : (encT t).leaf = false := rfl
theorem qe8 (l : List T) : (qcy l).length = l.length := by simp [qcy]
theorem qdr {l : List T} {i : Nat} (h : i < l.length) : (qcy l).getD i .junk = encT (l.getD i T0) := by
  rw [qcy, List.getD_eq_getElem?_getD, List.getElem?_map, List.getElem?_eq_getElem h, List.getD_eq_getElem?_getD, List.getElem?_eq_getElem h]; rfl
theorem q4e {l : List T} {i : Nat} (h : i < l.length) : l.getD i T0 ∈ l := by
  rw [List.getD_eq_getElem?_getD, List.getElem?_eq_getElem h]; exact List.getElem_mem h
theorem q6v {l : List T} {i : Nat} (h : i < l.length) : l.drop i = l.getD i T0 :: l.drop (i + 1) := by
  rw [List.drop_eq_getElem_cons h, List.getD_eq_getElem?_getD, List.getElem?_eq_getElem h]; rfl
theorem qgi (a : List T) (t : T) : qcy a ++ [encT t] = qcy (a ++ [t]) := by simp [qcy]
theorem qgu : qcy [] = [] := rfl
theorem qyw (n : Nat) (l : List T) : (qcy l).take n = qcy (l.take n) := by simp [qcy]
theorem qw3 (n : Nat) (l : List T) : (qcy l).drop n = qcy (l.drop n) := by simp [qcy]
theorem q9j (b : Bool) (n off : Nat) (t : T) : fldv b n off (encT t) = ldc b n off [.int .i64 t.kind, .int .i64 t.pos, .int .i64 t.num, .str t.text] := rfl
attribute [go_sem] q9j q3d q0j qhs q42 qiu qbqh q7e qx8 qzj qs1 qe8 qyw qw3
end Go.V
