/- A text of this proof. -/
import Derived.Test.YtfpobiheiloamaaGai

/- pairs of a variable and a type, as data -/
namespace Go.V
open Go Go.RowKit
set_option linter.unusedVariables false

structure Pr where
 v : Int
 ty : Ty
def encR (p : Pr) : AV := .agg [.int .i64 p.v, .str p.ty.con, .int .i64 p.ty.var, .sl 3 (qq p.ty.args)]
def qo (l : List Pr) : List AV := l.map encR
def R0 : Pr := ⟨0, Y0⟩
abbrev prc (p : Pr) : List AV := [.int .i64 p.v, .str p.ty.con, .int .i64 p.ty.var, .sl 3 (qq p.ty.args)]
theorem qr3 (p : Pr) : AV.agg [.int .i64 p.v, .str p.ty.con, .int .i64 p.ty.var, .sl 3 (qq p.ty.args)] = encR p := rfl
theorem qq1 (p : Pr) : (encR p).cells = prc p := rfl
theorem qgc (k : Nat) (p : Pr) : (encR p).bd k = true := by simp only [encR, AV.bd, AV.bds, qb9, Bool.and_true]
theorem qbi (k : Nat) (l : List Pr) : AV.bds k (qo l) = true := by rw [qo, qc8, List.all_map, List.all_eq_true]; exact fun x _ => qgc k x
theorem qkw (σ : Nat → Nat) (p : Pr) : (encR p).ren σ = encR p := ren_same (m := 0) (fun i hi => by omega) _ (qgc 0 p)
theorem qh7 (σ : Nat → Nat) (l : List Pr) : AV.rens σ (qo l) = qo l := ql (m := 0) (fun i hi => by omega) _ (qbi 0 l)
theorem q7s (H : List Ent) (p : Pr) : co H (.agg [.id, .id, .id, .sl 3]) (encR p) = encR p := by
 simp only [encR, qod, qgy, qj1, qv0, qgw]
theorem qug (p : Pr) : rdCo (.agg [.id, .id, .id, .sl 3]) (encR p) = [] := by
 simp only [encR, qg0, qeg, qe6, qjz, qef, List.append_nil]
theorem q0b (p : Pr) : (encR p).isAgg = true := rfl
theorem qlm (p : Pr) : (encR p).leaf = false := rfl
theorem qb3 (l : List Pr) : (qo l).length = l.length := by simp [qo]
theorem qj {l : List Pr} {i : Nat} (h : i < l.length) : (qo l).getD i .junk = encR (l.getD i R0) := by
 rw [qo, List.getD_eq_getElem?_getD, List.getElem?_map, List.getElem?_eq_getElem h, List.getD_eq_getElem?_getD, List.getElem?_eq_getElem h]; rfl
theorem qcb {l : List Pr} {i : Nat} (h : i < l.length) : l.getD i R0 ∈ l := by
 rw [List.getD_eq_getElem?_getD, List.getElem?_eq_getElem h]; exact List.getElem_mem h
theorem qbde {l : List Pr} {i : Nat} (h : i < l.length) : l.drop i = l.getD i R0 :: l.drop (i + 1) := by
 rw [List.drop_eq_getElem_cons h, List.getD_eq_getElem?_getD, List.getElem?_eq_getElem h]; rfl
theorem qqq (l : List Pr) (p : Pr) : qo l ++ [encR p] = qo (l ++ [p]) := by simp [qo]
theorem qum : qo [] = [] := rfl
theorem qq6 (n : Nat) (l : List Pr) : (qo l).take n = qo (l.take n) := by simp [qo]
theorem qqc (n : Nat) (l : List Pr) : (qo l).drop n = qo (l.drop n) := by simp [qo]
theorem qzf (b : Bool) (n off : Nat) (p : Pr) : fldv b n off (encR p) = ldc b n off (prc p) := rfl
theorem qfl {l : List Pr} {n : Nat} (h : (AV.sl n (qo l)).wf) : l.length ≤ maxLen ∧ ∀ p ∈ l, (encR p).wf := by
 refine ⟨by have := h.1; rwa [qb3] at this, fun p hp => (qns _).1 h.2 _ ?_⟩
 rw [qo]; exact List.mem_map_of_mem hp
attribute [go_sem] prc qzf qug qgc qbi qkw qh7 q7s q0b qq1 qr3 qlm qb3 qq6 qqc
end Go.V
