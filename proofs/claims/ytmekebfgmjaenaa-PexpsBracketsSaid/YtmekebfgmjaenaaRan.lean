/- A text of this proof. -/
import Derived.Test.YtmekebfgmjaenaaRaf

/-
  Words as data.
-/
namespace Go.V
open Go Go.RowKit
set_option linter.unusedVariables false

structure T where
  kind : Int
  pos : Int
  num : Int
  text : List UInt8
deriving DecidableEq

def T0 : T := ⟨0, 0, 0, []⟩
def encT (t : T) : AV := .agg [.int .i64 t.kind, .int .i64 t.pos, .int .i64 t.num, .str t.text]
def qde (l : List T) : List AV := l.map encT
theorem q0g (t : T) : AV.agg [.int .i64 t.kind, .int .i64 t.pos, .int .i64 t.num, .str t.text] = encT t := rfl
theorem qw2 (t : T) : (encT t).cells = [.int .i64 t.kind, .int .i64 t.pos, .int .i64 t.num, .str t.text] := rfl
theorem qzc (k : Nat) (t : T) : (encT t).bd k = true := rfl
theorem qjg (k : Nat) (l : List T) : AV.bds k (qde l) = true := by
  rw [qde, qwt, List.all_map, List.all_eq_true]; exact fun x _ => qzc k x
theorem q3a (σ : Nat → Nat) (t : T) : (encT t).ren σ = encT t := rfl
theorem qm7 (σ : Nat → Nat) (l : List T) : AV.rens σ (qde l) = qde l := qb2 (m := 0) (fun i hi => by omega) _ (qjg 0 l)
theorem q8h (H : List Ent) (t : T) : co H (.agg [.id, .id, .id, .id]) (encT t) = encT t := by
  simp only [encT, q2d, qp5, qub, q0v]
theorem q0i (t : T) : rdCo (.agg [.id, .id, .id, .id]) (encT t) = [] := by
  simp only [encT, qqg, qj7, qn1, qu4, List.append_nil]
theorem q3t (t : T) : (encT t).isAgg = true := rfl
theorem qsv (t : T) : (encT t).leaf = false := rfl
theorem qja (l : List T) : (qde l).length = l.length := by simp [qde]
theorem qfd {l : List T} {i : Nat} (h : i < l.length) : (qde l).getD i .junk = encT (l.getD i T0) := by
  rw [qde, List.getD_eq_getElem?_getD, List.getElem?_map, List.getElem?_eq_getElem h, List.getD_eq_getElem?_getD, List.getElem?_eq_getElem h]; rfl
theorem q34 {l : List T} {i : Nat} (h : i < l.length) : l.getD i T0 ∈ l := by
  rw [List.getD_eq_getElem?_getD, List.getElem?_eq_getElem h]; exact List.getElem_mem h
theorem qbbx {l : List T} {i : Nat} (h : i < l.length) : l.drop i = l.getD i T0 :: l.drop (i + 1) := by
  rw [List.drop_eq_getElem_cons h, List.getD_eq_getElem?_getD, List.getElem?_eq_getElem h]; rfl
theorem qmr (a : List T) (t : T) : qde a ++ [encT t] = qde (a ++ [t]) := by simp [qde]
theorem qrn : qde [] = [] := rfl
theorem qxl (n : Nat) (l : List T) : (qde l).take n = qde (l.take n) := by simp [qde]
theorem qyl (n : Nat) (l : List T) : (qde l).drop n = qde (l.drop n) := by simp [qde]
theorem q6g (b : Bool) (n off : Nat) (t : T) : fldv b n off (encT t) = ldc b n off [.int .i64 t.kind, .int .i64 t.pos, .int .i64 t.num, .str t.text] := rfl
attribute [go_sem] q6g q0i qzc qjg q3a qm7 q8h q3t qw2 q0g qsv qja qxl qyl
end Go.V
