/- A text of this proof. -/
import Derived.Test.YtbbjelfnocmaoaaGreatAai

/- instances as data -/
namespace Go.V
open Go Go.RowKit
set_option linter.unusedVariables false

structure Ins where
 cls : List UInt8
 con : List UInt8
 n : Int
 ps : List Pd
def encI (x : Ins) : AV := .agg [.str x.cls, .str x.con, .int .i64 x.n, .sl 4 (qu x.ps)]
def qbn (l : List Ins) : List AV := l.map encI
def I0 : Ins := ⟨[], [], 0, []⟩
abbrev idc (x : Ins) : List AV := [.str x.cls, .str x.con, .int .i64 x.n, .sl 4 (qu x.ps)]
theorem qvc (x : Ins) : AV.agg [.str x.cls, .str x.con, .int .i64 x.n, .sl 4 (qu x.ps)] = encI x := rfl
theorem qsw (x : Ins) : (encI x).cells = idc x := rfl
theorem qor (k : Nat) (x : Ins) : (encI x).bd k = true := by simp only [encI, AV.bd, AV.bds, qce, Bool.and_true]
theorem qqg (k : Nat) (l : List Ins) : AV.bds k (qbn l) = true := by rw [qbn, qdc, List.all_map, List.all_eq_true]; exact fun x _ => qor k x
theorem qyk (σ : Nat → Nat) (x : Ins) : (encI x).ren σ = encI x := ren_same (m := 0) (fun i hi => by omega) _ (qor 0 x)
theorem qt3 (σ : Nat → Nat) (l : List Ins) : AV.rens σ (qbn l) = qbn l := qn (m := 0) (fun i hi => by omega) _ (qqg 0 l)
theorem q6e (H : List Ent) (x : Ins) : co H (.agg [.id, .id, .id, .sl 4]) (encI x) = encI x := by
 simp only [encI, qny, qf9, qi8, qo1, qfu]
theorem qvd (x : Ins) : rdCo (.agg [.id, .id, .id, .sl 4]) (encI x) = [] := by
 simp only [encI, qf1, qdn, qeo, qhx, qdm, List.append_nil]
theorem qzx (x : Ins) : (encI x).isAgg = true := rfl
theorem qn3 (x : Ins) : (encI x).leaf = false := rfl
theorem ql5 (l : List Ins) : (qbn l).length = l.length := by simp [qbn]
theorem qck {l : List Ins} {i : Nat} (h : i < l.length) : (qbn l).getD i .junk = encI (l.getD i I0) := by
 rw [qbn, List.getD_eq_getElem?_getD, List.getElem?_map, List.getElem?_eq_getElem h, List.getD_eq_getElem?_getD, List.getElem?_eq_getElem h]; rfl
theorem qh2 {l : List Ins} {i : Nat} (h : i < l.length) : l.getD i I0 ∈ l := by
 rw [List.getD_eq_getElem?_getD, List.getElem?_eq_getElem h]; exact List.getElem_mem h
theorem qbj9 {l : List Ins} {i : Nat} (h : i < l.length) : l.drop i = l.getD i I0 :: l.drop (i + 1) := by
 rw [List.drop_eq_getElem_cons h, List.getD_eq_getElem?_getD, List.getElem?_eq_getElem h]; rfl
theorem qtb (n : Nat) (l : List Ins) : (qbn l).take n = qbn (l.take n) := by simp [qbn]
theorem qsv (n : Nat) (l : List Ins) : (qbn l).drop n = qbn (l.drop n) := by simp [qbn]
theorem q2d (b : Bool) (n off : Nat) (x : Ins) : fldv b n off (encI x) = ldc b n off (idc x) := rfl
theorem qls {x : Ins} (h : (encI x).wf) : x.cls.length ≤ maxLen ∧ x.con.length ≤ maxLen ∧ (Lit.int .i64 x.n).wf = true ∧ (AV.sl 4 (qu x.ps)).wf := by
 obtain ⟨h1, h2, h3, h4, _⟩ := h
 exact ⟨h1, h2, h3, h4⟩
theorem qdz {l : List Ins} {n : Nat} (h : (AV.sl n (qbn l)).wf) : l.length ≤ maxLen ∧ ∀ p ∈ l, (encI p).wf := by
 refine ⟨by have := h.1; rwa [ql5] at this, fun p hp => (qk8 _).1 h.2 _ ?_⟩
 rw [qbn]; exact List.mem_map_of_mem hp
attribute [go_sem] idc q2d qvd qor qqg qyk qt3 q6e qzx qsw qvc qn3 ql5 qtb qsv
end Go.V
