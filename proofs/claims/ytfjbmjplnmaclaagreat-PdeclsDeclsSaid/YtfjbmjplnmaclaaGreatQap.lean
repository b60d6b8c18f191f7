/- A text of this proof. -/
import Derived.Test.YtfjbmjplnmaclaaGreatQah

/-
 Words as data.
-/
namespace Go.V
open Go Go.RowKit
set_option linter.unusedVariables false

structure T where
 kind : Int
 pos : Int
 num : Int
 text : List UInt8
deriving DecidableEq

def T0 : T := ⟨0, 0, 0, []⟩
def encT (t : T) : AV := .agg [.int .i64 t.kind, .int .i64 t.pos, .int .i64 t.num, .str t.text]
def qcv (l : List T) : List AV := l.map encT
theorem q7e (t : T) : AV.agg [.int .i64 t.kind, .int .i64 t.pos, .int .i64 t.num, .str t.text] = encT t := rfl
theorem q59 (t : T) : (encT t).cells = [.int .i64 t.kind, .int .i64 t.pos, .int .i64 t.num, .str t.text] := rfl
theorem q6r (k : Nat) (t : T) : (encT t).bd k = true := rfl
theorem qio (k : Nat) (l : List T) : AV.bds k (qcv l) = true := by
 rw [qcv, q3u, List.all_map, List.all_eq_true]; exact fun x _ => q6r k x
theorem qbgt (σ : Nat → Nat) (t : T) : (encT t).ren σ = encT t := rfl
theorem qk1 (σ : Nat → Nat) (l : List T) : AV.rens σ (qcv l) = qcv l := qco (m := 0) (fun i hi => by omega) _ (qio 0 l)
theorem qbyp (H : List Ent) (t : T) : co H (.agg [.id, .id, .id, .id]) (encT t) = encT t := by
 simp only [encT, q9c, qww, q0y, q8a]
theorem qbb2 (t : T) : rdCo (.agg [.id, .id, .id, .id]) (encT t) = [] := by
 simp only [encT, qv0, qoc, qr3, q06, List.append_nil]
theorem qbjm (t : T) : (encT t).isAgg = true := rfl
theorem qy2 (t : T) : (encT t).leaf = false := rfl
theorem qgb (l : List T) : (qcv l).length = l.length := by simp [qcv]
theorem qd5 {l : List T} {i : Nat} (h : i < l.length) : (qcv l).getD i .junk = encT (l.getD i T0) := by
 rw [qcv, List.getD_eq_getElem?_getD, List.getElem?_map, List.getElem?_eq_getElem h, List.getD_eq_getElem?_getD, List.getElem?_eq_getElem h]; rfl
theorem q3a {l : List T} {i : Nat} (h : i < l.length) : l.getD i T0 ∈ l := by
 rw [List.getD_eq_getElem?_getD, List.getElem?_eq_getElem h]; exact List.getElem_mem h
theorem qbcn {l : List T} {i : Nat} (h : i < l.length) : l.drop i = l.getD i T0 :: l.drop (i + 1) := by
 rw [List.drop_eq_getElem_cons h, List.getD_eq_getElem?_getD, List.getElem?_eq_getElem h]; rfl
theorem qga (a : List T) (t : T) : qcv a ++ [encT t] = qcv (a ++ [t]) := by simp [qcv]
theorem qib : qcv [] = [] := rfl
theorem q5v (n : Nat) (l : List T) : (qcv l).take n = qcv (l.take n) := by simp [qcv]
theorem q38 (n : Nat) (l : List T) : (qcv l).drop n = qcv (l.drop n) := by simp [qcv]
theorem qbh4 (b : Bool) (n off : Nat) (t : T) : fldv b n off (encT t) = ldc b n off [.int .i64 t.kind, .int .i64 t.pos, .int .i64 t.num, .str t.text] := rfl
attribute [go_sem] qbh4 qbb2 q6r qio qbgt qk1 qbyp qbjm q59 q7e qy2 qgb q5v q38
end Go.V
