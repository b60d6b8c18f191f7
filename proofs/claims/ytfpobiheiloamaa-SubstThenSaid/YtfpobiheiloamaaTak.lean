/- A text of this proof. -/
import Derived.Test.YtfpobiheiloamaaTai

/- pairs of a variable and a type, as data -/
namespace Go.V
open Go Go.RowKit
set_option linter.unusedVariables false

structure Pr where
 v : Int
 ty : Ty
def encR (p : Pr) : AV := .agg [.int .i64 p.v, .str p.ty.con, .int .i64 p.ty.var, .sl 3 (qs p.ty.args)]
def qr (l : List Pr) : List AV := l.map encR
def R0 : Pr := ⟨0, Y0⟩
abbrev prc (p : Pr) : List AV := [.int .i64 p.v, .str p.ty.con, .int .i64 p.ty.var, .sl 3 (qs p.ty.args)]
theorem qr3 (p : Pr) : AV.agg [.int .i64 p.v, .str p.ty.con, .int .i64 p.ty.var, .sl 3 (qs p.ty.args)] = encR p := rfl
theorem qpi (p : Pr) : (encR p).cells = prc p := rfl
theorem qe8 (k : Nat) (p : Pr) : (encR p).bd k = true := by simp only [encR, AV.bd, AV.bds, qcm, Bool.and_true]
theorem qb0 (k : Nat) (l : List Pr) : AV.bds k (qr l) = true := by rw [qr, qdd, List.all_map, List.all_eq_true]; exact fun x _ => qe8 k x
theorem qjr (σ : Nat → Nat) (p : Pr) : (encR p).ren σ = encR p := ren_same (m := 0) (fun i hi => by omega) _ (qe8 0 p)
theorem qgg (σ : Nat → Nat) (l : List Pr) : AV.rens σ (qr l) = qr l := qj (m := 0) (fun i hi => by omega) _ (qb0 0 l)
theorem qy2 (H : List Ent) (p : Pr) : co H (.agg [.id, .id, .id, .sl 3]) (encR p) = encR p := by
 simp only [encR, qq4, qjn, qmq, q1f, qjk]
theorem qqy (p : Pr) : rdCo (.agg [.id, .id, .id, .sl 3]) (encR p) = [] := by
 simp only [encR, qjz, qfo, qhe, ql6, qfi, List.append_nil]
theorem qt9 (p : Pr) : (encR p).isAgg = true := rfl
theorem qlf (p : Pr) : (encR p).leaf = false := rfl
theorem qce (l : List Pr) : (qr l).length = l.length := by simp [qr]
theorem qx {l : List Pr} {i : Nat} (h : i < l.length) : (qr l).getD i .junk = encR (l.getD i R0) := by
 rw [qr, List.getD_eq_getElem?_getD, List.getElem?_map, List.getElem?_eq_getElem h, List.getD_eq_getElem?_getD, List.getElem?_eq_getElem h]; rfl
theorem qb8 {l : List Pr} {i : Nat} (h : i < l.length) : l.getD i R0 ∈ l := by
 rw [List.getD_eq_getElem?_getD, List.getElem?_eq_getElem h]; exact List.getElem_mem h
theorem qbdm {l : List Pr} {i : Nat} (h : i < l.length) : l.drop i = l.getD i R0 :: l.drop (i + 1) := by
 rw [List.drop_eq_getElem_cons h, List.getD_eq_getElem?_getD, List.getElem?_eq_getElem h]; rfl
theorem qpx (l : List Pr) (p : Pr) : qr l ++ [encR p] = qr (l ++ [p]) := by simp [qr]
theorem qqu : qr [] = [] := rfl
theorem qpo (n : Nat) (l : List Pr) : (qr l).take n = qr (l.take n) := by simp [qr]
theorem qo1 (n : Nat) (l : List Pr) : (qr l).drop n = qr (l.drop n) := by simp [qr]
theorem qvd (b : Bool) (n off : Nat) (p : Pr) : fldv b n off (encR p) = ldc b n off (prc p) := rfl
theorem qjt {l : List Pr} {n : Nat} (h : (AV.sl n (qr l)).wf) : l.length ≤ maxLen ∧ ∀ p ∈ l, (encR p).wf := by
 refine ⟨by have := h.1; rwa [qce] at this, fun p hp => (qs4 _).1 h.2 _ ?_⟩
 rw [qr]; exact List.mem_map_of_mem hp
attribute [go_sem] prc qvd qqy qe8 qb0 qjr qgg qy2 qt9 qpi qr3 qlf qce qpo qo1
end Go.V
