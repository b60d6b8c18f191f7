/- A text of this proof. -/
import Derived.Test.YtfjbmjplnmaclaaWaf

/-
  Words as data.
-/
namespace Go.V
open Go Go.RowKit
set_option linter.unusedVariables false

structure T where
  kind : Int
  pos : Int
  num : Int
  text : List UInt8
deriving DecidableEq

def T0 : T := ⟨0, 0, 0, []⟩
def encT (t : T) : AV := .agg [.int .i64 t.kind, .int .i64 t.pos, .int .i64 t.num, .str t.text]
def qde (l : List T) : List AV := l.map encT
theorem qxy (t : T) : AV.agg [.int .i64 t.kind, .int .i64 t.pos, .int .i64 t.num, .str t.text] = encT t := rfl
theorem qu1 (t : T) : (encT t).cells = [.int .i64 t.kind, .int .i64 t.pos, .int .i64 t.num, .str t.text] := rfl
theorem qxb (k : Nat) (t : T) : (encT t).bd k = true := rfl
theorem qh2 (k : Nat) (l : List T) : AV.bds k (qde l) = true := by
  rw [qde, qsl, List.all_map, List.all_eq_true]; exact fun x _ => qxb k x
theorem q0k (σ : Nat → Nat) (t : T) : (encT t).ren σ = encT t := rfl
theorem qln (σ : Nat → Nat) (l : List T) : AV.rens σ (qde l) = qde l := qb4 (m := 0) (fun i hi => by omega) _ (qh2 0 l)
theorem qbj6 (H : List Ent) (t : T) : co H (.agg [.id, .id, .id, .id]) (encT t) = encT t := by
  simp only [encT, qu5, qnc, qqy, qv3]
theorem qx1 (t : T) : rdCo (.agg [.id, .id, .id, .id]) (encT t) = [] := by
  simp only [encT, qn9, qis, qlh, qq4, List.append_nil]
theorem q4r (t : T) : (encT t).isAgg = true := rfl
theorem qoq (t : T) : (encT t).leaf = false := rfl
theorem qh0 (l : List T) : (qde l).length = l.length := by simp [qde]
theorem qev {l : List T} {i : Nat} (h : i < l.length) : (qde l).getD i .junk = encT (l.getD i T0) := by
  rw [qde, List.getD_eq_getElem?_getD, List.getElem?_map, List.getElem?_eq_getElem h, List.getD_eq_getElem?_getD, List.getElem?_eq_getElem h]; rfl
theorem qbqn {l : List T} {i : Nat} (h : i < l.length) : l.drop i = l.getD i T0 :: l.drop (i + 1) := by
  rw [List.drop_eq_getElem_cons h, List.getD_eq_getElem?_getD, List.getElem?_eq_getElem h]; rfl
theorem qkf (a : List T) (t : T) : qde a ++ [encT t] = qde (a ++ [t]) := by simp [qde]
theorem qog : qde [] = [] := rfl
theorem qt2 (n : Nat) (l : List T) : (qde l).take n = qde (l.take n) := by simp [qde]
theorem qu0 (n : Nat) (l : List T) : (qde l).drop n = qde (l.drop n) := by simp [qde]
theorem q4i (b : Bool) (n off : Nat) (t : T) : fldv b n off (encT t) = ldc b n off [.int .i64 t.kind, .int .i64 t.pos, .int .i64 t.num, .str t.text] := rfl
attribute [go_sem] q4i qx1 qxb qh2 q0k qln qbj6 q4r qu1 qxy qoq qh0 qt2 qu0
end Go.V
