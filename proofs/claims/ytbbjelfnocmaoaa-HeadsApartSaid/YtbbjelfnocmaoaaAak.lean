/- A text of this proof. -/
import Derived.Test.YtbbjelfnocmaoaaAai

/- instances as data -/
namespace Go.V
open Go Go.RowKit
set_option linter.unusedVariables false

structure Ins where
 cls : List UInt8
 con : List UInt8
 n : Int
 ps : List Pd
def encI (x : Ins) : AV := .agg [.str x.cls, .str x.con, .int .i64 x.n, .sl 4 (q7 x.ps)]
def qbh (l : List Ins) : List AV := l.map encI
def I0 : Ins := ⟨[], [], 0, []⟩
abbrev idc (x : Ins) : List AV := [.str x.cls, .str x.con, .int .i64 x.n, .sl 4 (q7 x.ps)]
theorem qrx (x : Ins) : AV.agg [.str x.cls, .str x.con, .int .i64 x.n, .sl 4 (q7 x.ps)] = encI x := rfl
theorem qqd (x : Ins) : (encI x).cells = idc x := rfl
theorem qm9 (k : Nat) (x : Ins) : (encI x).bd k = true := by simp only [encI, AV.bd, AV.bds, qdl, Bool.and_true]
theorem qpi (k : Nat) (l : List Ins) : AV.bds k (qbh l) = true := by rw [qbh, qcr, List.all_map, List.all_eq_true]; exact fun x _ => qm9 k x
theorem qwv (σ : Nat → Nat) (x : Ins) : (encI x).ren σ = encI x := ren_same (m := 0) (fun i hi => by omega) _ (qm9 0 x)
theorem qsm (σ : Nat → Nat) (l : List Ins) : AV.rens σ (qbh l) = qbh l := qj (m := 0) (fun i hi => by omega) _ (qpi 0 l)
theorem q62 (H : List Ent) (x : Ins) : co H (.agg [.id, .id, .id, .sl 4]) (encI x) = encI x := by
 simp only [encI, qlx, qfd, qg4, qmw, qfi]
theorem qr7 (x : Ins) : rdCo (.agg [.id, .id, .id, .sl 4]) (encI x) = [] := by
 simp only [encI, qex, qc6, qd0, qim, qc4, List.append_nil]
theorem qxj (x : Ins) : (encI x).isAgg = true := rfl
theorem qmm (x : Ins) : (encI x).leaf = false := rfl
theorem qlo (l : List Ins) : (qbh l).length = l.length := by simp [qbh]
theorem qc3 {l : List Ins} {i : Nat} (h : i < l.length) : (qbh l).getD i .junk = encI (l.getD i I0) := by
 rw [qbh, List.getD_eq_getElem?_getD, List.getElem?_map, List.getElem?_eq_getElem h, List.getD_eq_getElem?_getD, List.getElem?_eq_getElem h]; rfl
theorem ql6 {l : List Ins} {i : Nat} (h : i < l.length) : l.getD i I0 ∈ l := by
 rw [List.getD_eq_getElem?_getD, List.getElem?_eq_getElem h]; exact List.getElem_mem h
theorem q9y {l : List Ins} {i : Nat} (h : i < l.length) : l.drop i = l.getD i I0 :: l.drop (i + 1) := by
 rw [List.drop_eq_getElem_cons h, List.getD_eq_getElem?_getD, List.getElem?_eq_getElem h]; rfl
theorem qre (n : Nat) (l : List Ins) : (qbh l).take n = qbh (l.take n) := by simp [qbh]
theorem qqc (n : Nat) (l : List Ins) : (qbh l).drop n = qbh (l.drop n) := by simp [qbh]
theorem qze (b : Bool) (n off : Nat) (x : Ins) : fldv b n off (encI x) = ldc b n off (idc x) := rfl
theorem qmp {x : Ins} (h : (encI x).wf) : x.cls.length ≤ maxLen ∧ x.con.length ≤ maxLen ∧ (Lit.int .i64 x.n).wf = true ∧ (AV.sl 4 (q7 x.ps)).wf := by
 obtain ⟨h1, h2, h3, h4, _⟩ := h
 exact ⟨h1, h2, h3, h4⟩
theorem qe7 {l : List Ins} {n : Nat} (h : (AV.sl n (qbh l)).wf) : l.length ≤ maxLen ∧ ∀ p ∈ l, (encI p).wf := by
 refine ⟨by have := h.1; rwa [qlo] at this, fun p hp => (qmz _).1 h.2 _ ?_⟩
 rw [qbh]; exact List.mem_map_of_mem hp
attribute [go_sem] idc qze qr7 qm9 qpi qwv qsm q62 qxj qqd qrx qmm qlo qre qqc
end Go.V
