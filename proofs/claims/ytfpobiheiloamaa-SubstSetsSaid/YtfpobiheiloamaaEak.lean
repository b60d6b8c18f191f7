/- A text of this proof. -/
import Derived.Test.YtfpobiheiloamaaEai

/- pairs of a variable and a type, as data -/
namespace Go.V
open Go Go.RowKit
set_option linter.unusedVariables false

structure Pr where
 v : Int
 ty : Ty
def encR (p : Pr) : AV := .agg [.int .i64 p.v, .str p.ty.con, .int .i64 p.ty.var, .sl 3 (qs p.ty.args)]
def qh (l : List Pr) : List AV := l.map encR
def R0 : Pr := ⟨0, Y0⟩
abbrev prc (p : Pr) : List AV := [.int .i64 p.v, .str p.ty.con, .int .i64 p.ty.var, .sl 3 (qs p.ty.args)]
theorem qsl (p : Pr) : AV.agg [.int .i64 p.v, .str p.ty.con, .int .i64 p.ty.var, .sl 3 (qs p.ty.args)] = encR p := rfl
theorem qre (p : Pr) : (encR p).cells = prc p := rfl
theorem qeu (k : Nat) (p : Pr) : (encR p).bd k = true := by simp only [encR, AV.bd, AV.bds, qci, Bool.and_true]
theorem qbc (k : Nat) (l : List Pr) : AV.bds k (qh l) = true := by rw [qh, qdn, List.all_map, List.all_eq_true]; exact fun x _ => qeu k x
theorem qk1 (σ : Nat → Nat) (p : Pr) : (encR p).ren σ = encR p := ren_same (m := 0) (fun i hi => by omega) _ (qeu 0 p)
theorem qfa (σ : Nat → Nat) (l : List Pr) : AV.rens σ (qh l) = qh l := qo (m := 0) (fun i hi => by omega) _ (qbc 0 l)
theorem q66 (H : List Ent) (p : Pr) : co H (.agg [.id, .id, .id, .sl 3]) (encR p) = encR p := by
 simp only [encR, qtv, qky, qoa, q3o, qkj]
theorem qtk (p : Pr) : rdCo (.agg [.id, .id, .id, .sl 3]) (encR p) = [] := by
 simp only [encR, qkk, qf1, qhm, qn6, qf4, List.append_nil]
theorem qv5 (p : Pr) : (encR p).isAgg = true := rfl
theorem qm4 (p : Pr) : (encR p).leaf = false := rfl
theorem qq (l : List Pr) : (qh l).length = l.length := by simp [qh]
theorem qe {l : List Pr} {i : Nat} (h : i < l.length) : (qh l).getD i .junk = encR (l.getD i R0) := by
 rw [qh, List.getD_eq_getElem?_getD, List.getElem?_map, List.getElem?_eq_getElem h, List.getD_eq_getElem?_getD, List.getElem?_eq_getElem h]; rfl
theorem qbx {l : List Pr} {i : Nat} (h : i < l.length) : l.getD i R0 ∈ l := by
 rw [List.getD_eq_getElem?_getD, List.getElem?_eq_getElem h]; exact List.getElem_mem h
theorem qtp {l : List Pr} {i : Nat} (h : i < l.length) : l.drop i = l.getD i R0 :: l.drop (i + 1) := by
 rw [List.drop_eq_getElem_cons h, List.getD_eq_getElem?_getD, List.getElem?_eq_getElem h]; rfl
theorem qft (l : List Pr) (p : Pr) : qh l ++ [encR p] = qh (l ++ [p]) := by simp [qh]
theorem qsr (p : Pr) : [encR p] = qh [p] := rfl
theorem qb1 : qh [] = [] := rfl
theorem qea {l : List Pr} (h : l ≠ []) : qh l ≠ [] := by cases l with | nil => exact absurd rfl h | cons _ _ => simp [qh]
theorem qqp (n : Nat) (l : List Pr) : (qh l).take n = qh (l.take n) := by simp [qh]
theorem qqk (n : Nat) (l : List Pr) : (qh l).drop n = qh (l.drop n) := by simp [qh]
theorem qxl (b : Bool) (n off : Nat) (p : Pr) : fldv b n off (encR p) = ldc b n off (prc p) := rfl
theorem qcn {l : List Pr} {n : Nat} (h : (AV.sl n (qh l)).wf) : l.length ≤ maxLen ∧ ∀ p ∈ l, (encR p).wf := by
 refine ⟨by have := h.1; rwa [qq] at this, fun p hp => (quu _).1 h.2 _ ?_⟩
 rw [qh]; exact List.mem_map_of_mem hp
attribute [go_sem] prc qxl qtk qeu qbc qk1 qfa q66 qv5 qre qsl qm4 qq qqp qqk
end Go.V
