/- A text of this proof. -/
import Derived.Test.YtbbjelfnocmaoaaGreatDai

/- instances as data -/
namespace Go.V
open Go Go.RowKit
set_option linter.unusedVariables false

structure Ins where
 cls : List UInt8
 con : List UInt8
 n : Int
 ps : List Pd
def encI (x : Ins) : AV := .agg [.str x.cls, .str x.con, .int .i64 x.n, .sl 4 (qu x.ps)]
def qbo (l : List Ins) : List AV := l.map encI
def I0 : Ins := ⟨[], [], 0, []⟩
abbrev idc (x : Ins) : List AV := [.str x.cls, .str x.con, .int .i64 x.n, .sl 4 (qu x.ps)]
theorem qwa (x : Ins) : AV.agg [.str x.cls, .str x.con, .int .i64 x.n, .sl 4 (qu x.ps)] = encI x := rfl
theorem qt5 (x : Ins) : (encI x).cells = idc x := rfl
theorem qpy (k : Nat) (x : Ins) : (encI x).bd k = true := by simp only [encI, AV.bd, AV.bds, qcx, Bool.and_true]
theorem qqk (k : Nat) (l : List Ins) : AV.bds k (qbo l) = true := by rw [qbo, qdk, List.all_map, List.all_eq_true]; exact fun x _ => qpy k x
theorem q3c (σ : Nat → Nat) (x : Ins) : (encI x).ren σ = encI x := ren_same (m := 0) (fun i hi => by omega) _ (qpy 0 x)
theorem qye (σ : Nat → Nat) (l : List Ins) : AV.rens σ (qbo l) = qbo l := qp (m := 0) (fun i hi => by omega) _ (qqk 0 l)
theorem q8n (H : List Ent) (x : Ins) : co H (.agg [.id, .id, .id, .sl 4]) (encI x) = encI x := by
 simp only [encI, qn6, qf9, qip, qpv, qgo]
theorem qwh (x : Ins) : rdCo (.agg [.id, .id, .id, .sl 4]) (encI x) = [] := by
 simp only [encI, qf7, qdu, qew, qji, qdw, List.append_nil]
theorem q38 (x : Ins) : (encI x).isAgg = true := rfl
theorem qoo (x : Ins) : (encI x).leaf = false := rfl
theorem qm6 (l : List Ins) : (qbo l).length = l.length := by simp [qbo]
theorem qcl {l : List Ins} {i : Nat} (h : i < l.length) : (qbo l).getD i .junk = encI (l.getD i I0) := by
 rw [qbo, List.getD_eq_getElem?_getD, List.getElem?_map, List.getElem?_eq_getElem h, List.getD_eq_getElem?_getD, List.getElem?_eq_getElem h]; rfl
theorem qnw {l : List Ins} {i : Nat} (h : i < l.length) : l.getD i I0 ∈ l := by
 rw [List.getD_eq_getElem?_getD, List.getElem?_eq_getElem h]; exact List.getElem_mem h
theorem qbpb {l : List Ins} {i : Nat} (h : i < l.length) : l.drop i = l.getD i I0 :: l.drop (i + 1) := by
 rw [List.drop_eq_getElem_cons h, List.getD_eq_getElem?_getD, List.getElem?_eq_getElem h]; rfl
theorem qso (n : Nat) (l : List Ins) : (qbo l).take n = qbo (l.take n) := by simp [qbo]
theorem qtm (n : Nat) (l : List Ins) : (qbo l).drop n = qbo (l.drop n) := by simp [qbo]
theorem q1x (b : Bool) (n off : Nat) (x : Ins) : fldv b n off (encI x) = ldc b n off (idc x) := rfl
theorem qjt {x : Ins} (h : (encI x).wf) : x.cls.length ≤ maxLen ∧ x.con.length ≤ maxLen ∧ (Lit.int .i64 x.n).wf = true ∧ (AV.sl 4 (qu x.ps)).wf := by
 obtain ⟨h1, h2, h3, h4, _⟩ := h
 exact ⟨h1, h2, h3, h4⟩
theorem qe6 {l : List Ins} {n : Nat} (h : (AV.sl n (qbo l)).wf) : l.length ≤ maxLen ∧ ∀ p ∈ l, (encI p).wf := by
 refine ⟨by have := h.1; rwa [qm6] at this, fun p hp => (qi5 _).1 h.2 _ ?_⟩
 rw [qbo]; exact List.mem_map_of_mem hp
attribute [go_sem] idc q1x qwh qpy qqk q3c qye q8n q38 qt5 qwa qoo qm6 qso qtm
end Go.V
