/- A text of this proof. -/
import Derived.Test.YtfpobiheiloamaaDai

/- pairs of a variable and a type, as data -/
namespace Go.V
open Go Go.RowKit
set_option linter.unusedVariables false

structure Pr where
 v : Int
 ty : Ty
def encR (p : Pr) : AV := .agg [.int .i64 p.v, .str p.ty.con, .int .i64 p.ty.var, .sl 3 (qr p.ty.args)]
def qi (l : List Pr) : List AV := l.map encR
def R0 : Pr := ⟨0, Y0⟩
abbrev prc (p : Pr) : List AV := [.int .i64 p.v, .str p.ty.con, .int .i64 p.ty.var, .sl 3 (qr p.ty.args)]
theorem qsz (p : Pr) : AV.agg [.int .i64 p.v, .str p.ty.con, .int .i64 p.ty.var, .sl 3 (qr p.ty.args)] = encR p := rfl
theorem qqe (p : Pr) : (encR p).cells = prc p := rfl
theorem qfq (k : Nat) (p : Pr) : (encR p).bd k = true := by simp only [encR, AV.bd, AV.bds, qch, Bool.and_true]
theorem q8 (k : Nat) (l : List Pr) : AV.bds k (qi l) = true := by rw [qi, qdl, List.all_map, List.all_eq_true]; exact fun x _ => qfq k x
theorem qj2 (σ : Nat → Nat) (p : Pr) : (encR p).ren σ = encR p := ren_same (m := 0) (fun i hi => by omega) _ (qfq 0 p)
theorem qfh (σ : Nat → Nat) (l : List Pr) : AV.rens σ (qi l) = qi l := qo (m := 0) (fun i hi => by omega) _ (q8 0 l)
theorem qbby (H : List Ent) (p : Pr) : co H (.agg [.id, .id, .id, .sl 3]) (encR p) = encR p := by
 simp only [encR, qt5, qkm, qnx, qbaj, qkj]
theorem qsk (p : Pr) : rdCo (.agg [.id, .id, .id, .sl 3]) (encR p) = [] := by
 simp only [encR, qkk, qf2, qg6, qne, qgc, List.append_nil]
theorem qvm (p : Pr) : (encR p).isAgg = true := rfl
theorem qmn (p : Pr) : (encR p).leaf = false := rfl
theorem qw (l : List Pr) : (qi l).length = l.length := by simp [qi]
theorem qf {l : List Pr} {i : Nat} (h : i < l.length) : (qi l).getD i .junk = encR (l.getD i R0) := by
 rw [qi, List.getD_eq_getElem?_getD, List.getElem?_map, List.getElem?_eq_getElem h, List.getD_eq_getElem?_getD, List.getElem?_eq_getElem h]; rfl
theorem qb7 {l : List Pr} {i : Nat} (h : i < l.length) : l.getD i R0 ∈ l := by
 rw [List.getD_eq_getElem?_getD, List.getElem?_eq_getElem h]; exact List.getElem_mem h
theorem qw6 {l : List Pr} {i : Nat} (h : i < l.length) : l.drop i = l.getD i R0 :: l.drop (i + 1) := by
 rw [List.drop_eq_getElem_cons h, List.getD_eq_getElem?_getD, List.getElem?_eq_getElem h]; rfl
theorem qf0 (l : List Pr) (p : Pr) : qi l ++ [encR p] = qi (l ++ [p]) := by simp [qi]
theorem quk (p : Pr) : [encR p] = qi [p] := rfl
theorem qds : qi [] = [] := rfl
theorem qom {l : List Pr} (h : l ≠ []) : qi l ≠ [] := by cases l with | nil => exact absurd rfl h | cons _ _ => simp [qi]
theorem qp1 (n : Nat) (l : List Pr) : (qi l).take n = qi (l.take n) := by simp [qi]
theorem qri (n : Nat) (l : List Pr) : (qi l).drop n = qi (l.drop n) := by simp [qi]
theorem qwk (b : Bool) (n off : Nat) (p : Pr) : fldv b n off (encR p) = ldc b n off (prc p) := rfl
theorem qdf {l : List Pr} {n : Nat} (h : (AV.sl n (qi l)).wf) : l.length ≤ maxLen ∧ ∀ p ∈ l, (encR p).wf := by
 refine ⟨by have := h.1; rwa [qw] at this, fun p hp => (qsl _).1 h.2 _ ?_⟩
 rw [qi]; exact List.mem_map_of_mem hp
attribute [go_sem] prc qwk qsk qfq q8 qj2 qfh qbby qvm qqe qsz qmn qw qp1 qri
end Go.V
