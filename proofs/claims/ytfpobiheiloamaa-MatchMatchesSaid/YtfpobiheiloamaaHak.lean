/- A text of this proof. -/
import Derived.Test.YtfpobiheiloamaaHai

/- pairs of a variable and a type, as data -/
namespace Go.V
open Go Go.RowKit
set_option linter.unusedVariables false

structure Pr where
 v : Int
 ty : Ty
def encR (p : Pr) : AV := .agg [.int .i64 p.v, .str p.ty.con, .int .i64 p.ty.var, .sl 3 (ql p.ty.args)]
def qr (l : List Pr) : List AV := l.map encR
def R0 : Pr := ⟨0, Y0⟩
abbrev prc (p : Pr) : List AV := [.int .i64 p.v, .str p.ty.con, .int .i64 p.ty.var, .sl 3 (ql p.ty.args)]
theorem quq (p : Pr) : AV.agg [.int .i64 p.v, .str p.ty.con, .int .i64 p.ty.var, .sl 3 (ql p.ty.args)] = encR p := rfl
theorem qp8 (p : Pr) : (encR p).cells = prc p := rfl
theorem qf6 (k : Nat) (p : Pr) : (encR p).bd k = true := by simp only [encR, AV.bd, AV.bds, qcq, Bool.and_true]
theorem qb0 (k : Nat) (l : List Pr) : AV.bds k (qr l) = true := by rw [qr, qeh, List.all_map, List.all_eq_true]; exact fun x _ => qf6 k x
theorem qkn (σ : Nat → Nat) (p : Pr) : (encR p).ren σ = encR p := ren_same (m := 0) (fun i hi => by omega) _ (qf6 0 p)
theorem qho (σ : Nat → Nat) (l : List Pr) : AV.rens σ (qr l) = qr l := qq (m := 0) (fun i hi => by omega) _ (qb0 0 l)
theorem q5k (H : List Ent) (p : Pr) : co H (.agg [.id, .id, .id, .sl 3]) (encR p) = encR p := by
 simp only [encR, qun, qk5, qn1, qsm, qku]
theorem qtq (p : Pr) : rdCo (.agg [.id, .id, .id, .sl 3]) (encR p) = [] := by
 simp only [encR, qj7, qf1, qic, qn5, qfy, List.append_nil]
theorem qyx (p : Pr) : (encR p).isAgg = true := rfl
theorem qlg (p : Pr) : (encR p).leaf = false := rfl
theorem qb3 (l : List Pr) : (qr l).length = l.length := by simp [qr]
theorem q8 {l : List Pr} {i : Nat} (h : i < l.length) : (qr l).getD i .junk = encR (l.getD i R0) := by
 rw [qr, List.getD_eq_getElem?_getD, List.getElem?_map, List.getElem?_eq_getElem h, List.getD_eq_getElem?_getD, List.getElem?_eq_getElem h]; rfl
theorem qj5 {l : List Pr} {i : Nat} (h : i < l.length) : l.getD i R0 ∈ l := by
 rw [List.getD_eq_getElem?_getD, List.getElem?_eq_getElem h]; exact List.getElem_mem h
theorem q4j {l : List Pr} {i : Nat} (h : i < l.length) : l.drop i = l.getD i R0 :: l.drop (i + 1) := by
 rw [List.drop_eq_getElem_cons h, List.getD_eq_getElem?_getD, List.getElem?_eq_getElem h]; rfl
theorem qqf (l : List Pr) (p : Pr) : qr l ++ [encR p] = qr (l ++ [p]) := by simp [qr]
theorem qtg : qr [] = [] := rfl
theorem qqm (n : Nat) (l : List Pr) : (qr l).take n = qr (l.take n) := by simp [qr]
theorem qro (n : Nat) (l : List Pr) : (qr l).drop n = qr (l.drop n) := by simp [qr]
theorem qy6 (b : Bool) (n off : Nat) (p : Pr) : fldv b n off (encR p) = ldc b n off (prc p) := rfl
theorem qkp {l : List Pr} {n : Nat} (h : (AV.sl n (qr l)).wf) : l.length ≤ maxLen ∧ ∀ p ∈ l, (encR p).wf := by
 refine ⟨by have := h.1; rwa [qb3] at this, fun p hp => (qsa _).1 h.2 _ ?_⟩
 rw [qr]; exact List.mem_map_of_mem hp
attribute [go_sem] prc qy6 qtq qf6 qb0 qkn qho q5k qyx qp8 quq qlg qb3 qqm qro
end Go.V
