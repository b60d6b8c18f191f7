/- A text of this proof. -/
import Derived.Test.YtmekebfgmjaenaaGreatEaf

/-
  Words as data.
-/
namespace Go.V
open Go Go.RowKit
set_option linter.unusedVariables false

structure T where
  kind : Int
  pos : Int
  num : Int
  text : List UInt8
deriving DecidableEq

def T0 : T := ⟨0, 0, 0, []⟩
def encT (t : T) : AV := .agg [.int .i64 t.kind, .int .i64 t.pos, .int .i64 t.num, .str t.text]
def qcr (l : List T) : List AV := l.map encT
theorem q39 (t : T) : AV.agg [.int .i64 t.kind, .int .i64 t.pos, .int .i64 t.num, .str t.text] = encT t := rfl
theorem qzj (t : T) : (encT t).cells = [.int .i64 t.kind, .int .i64 t.pos, .int .i64 t.num, .str t.text] := rfl
theorem q2d (k : Nat) (t : T) : (encT t).bd k = true := rfl
theorem qhk (k : Nat) (l : List T) : AV.bds k (qcr l) = true := by
  rw [qcr, qw4, List.all_map, List.all_eq_true]; exact fun x _ => q2d k x
theorem q61 (σ : Nat → Nat) (t : T) : (encT t).ren σ = encT t := rfl
theorem qjb (σ : Nat → Nat) (l : List T) : AV.rens σ (qcr l) = qcr l := qck (m := 0) (fun i hi => by omega) _ (qhk 0 l)
theorem qbgv (H : List Ent) (t : T) : co H (.agg [.id, .id, .id, .id]) (encT t) = encT t := by
  simp only [encT, q12, qso, qwh, q2f]
theorem q11 (t : T) : rdCo (.agg [.id, .id, .id, .id]) (encT t) = [] := by
  simp only [encT, qr3, ql6, qpd, qv4, List.append_nil]
theorem q8m (t : T) : (encT t).isAgg = true := rfl
theorem qti (t : T) : (encT t).leaf = false := rfl
theorem qfp (l : List T) : (qcr l).length = l.length := by simp [qcr]
theorem qds {l : List T} {i : Nat} (h : i < l.length) : (qcr l).getD i .junk = encT (l.getD i T0) := by
  rw [qcr, List.getD_eq_getElem?_getD, List.getElem?_map, List.getElem?_eq_getElem h, List.getD_eq_getElem?_getD, List.getElem?_eq_getElem h]; rfl
theorem qxv {l : List T} {i : Nat} (h : i < l.length) : l.getD i T0 ∈ l := by
  rw [List.getD_eq_getElem?_getD, List.getElem?_eq_getElem h]; exact List.getElem_mem h
theorem qbaw {l : List T} {i : Nat} (h : i < l.length) : l.drop i = l.getD i T0 :: l.drop (i + 1) := by
  rw [List.drop_eq_getElem_cons h, List.getD_eq_getElem?_getD, List.getElem?_eq_getElem h]; rfl
theorem qff (a : List T) (t : T) : qcr a ++ [encT t] = qcr (a ++ [t]) := by simp [qcr]
theorem qg6 : qcr [] = [] := rfl
theorem q0i (n : Nat) (l : List T) : (qcr l).take n = qcr (l.take n) := by simp [qcr]
theorem q0j (n : Nat) (l : List T) : (qcr l).drop n = qcr (l.drop n) := by simp [qcr]
theorem q94 (b : Bool) (n off : Nat) (t : T) : fldv b n off (encT t) = ldc b n off [.int .i64 t.kind, .int .i64 t.pos, .int .i64 t.num, .str t.text] := rfl
attribute [go_sem] q94 q11 q2d qhk q61 qjb qbgv q8m qzj q39 qti qfp q0i q0j
end Go.V
