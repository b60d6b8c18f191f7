/- A text of this proof. -/
import Derived.Test.YtfpobiheiloamaaKai

/- pairs of a variable and a type, as data -/
namespace Go.V
open Go Go.RowKit
set_option linter.unusedVariables false

structure Pr where
 v : Int
 ty : Ty
def encR (p : Pr) : AV := .agg [.int .i64 p.v, .str p.ty.con, .int .i64 p.ty.var, .sl 3 (qi p.ty.args)]
def qr (l : List Pr) : List AV := l.map encR
def R0 : Pr := ⟨0, Y0⟩
abbrev prc (p : Pr) : List AV := [.int .i64 p.v, .str p.ty.con, .int .i64 p.ty.var, .sl 3 (qi p.ty.args)]
theorem qrr (p : Pr) : AV.agg [.int .i64 p.v, .str p.ty.con, .int .i64 p.ty.var, .sl 3 (qi p.ty.args)] = encR p := rfl
theorem qqq (p : Pr) : (encR p).cells = prc p := rfl
theorem qgc (k : Nat) (p : Pr) : (encR p).bd k = true := by simp only [encR, AV.bd, AV.bds, qb7, Bool.and_true]
theorem qb1 (k : Nat) (l : List Pr) : AV.bds k (qr l) = true := by rw [qr, qei, List.all_map, List.all_eq_true]; exact fun x _ => qgc k x
theorem qkm (σ : Nat → Nat) (p : Pr) : (encR p).ren σ = encR p := ren_same (m := 0) (fun i hi => by omega) _ (qgc 0 p)
theorem qho (σ : Nat → Nat) (l : List Pr) : AV.rens σ (qr l) = qr l := qq (m := 0) (fun i hi => by omega) _ (qb1 0 l)
theorem qbaw (H : List Ent) (p : Pr) : co H (.agg [.id, .id, .id, .sl 3]) (encR p) = encR p := by
 simp only [encR, qse, qkx, qnl, qtq, qk1]
theorem qux (p : Pr) : rdCo (.agg [.id, .id, .id, .sl 3]) (encR p) = [] := by
 simp only [encR, qkg, qft, qhi, qnf, qfy, List.append_nil]
theorem qw6 (p : Pr) : (encR p).isAgg = true := rfl
theorem ql0 (p : Pr) : (encR p).leaf = false := rfl
theorem qb2 (l : List Pr) : (qr l).length = l.length := by simp [qr]
theorem q9 {l : List Pr} {i : Nat} (h : i < l.length) : (qr l).getD i .junk = encR (l.getD i R0) := by
 rw [qr, List.getD_eq_getElem?_getD, List.getElem?_map, List.getElem?_eq_getElem h, List.getD_eq_getElem?_getD, List.getElem?_eq_getElem h]; rfl
theorem qk4 {l : List Pr} {i : Nat} (h : i < l.length) : l.getD i R0 ∈ l := by
 rw [List.getD_eq_getElem?_getD, List.getElem?_eq_getElem h]; exact List.getElem_mem h
theorem q66 {l : List Pr} {i : Nat} (h : i < l.length) : l.drop i = l.getD i R0 :: l.drop (i + 1) := by
 rw [List.drop_eq_getElem_cons h, List.getD_eq_getElem?_getD, List.getElem?_eq_getElem h]; rfl
theorem qp3 (l : List Pr) (p : Pr) : qr l ++ [encR p] = qr (l ++ [p]) := by simp [qr]
theorem qrv : qr [] = [] := rfl
theorem qrj (n : Nat) (l : List Pr) : (qr l).take n = qr (l.take n) := by simp [qr]
theorem qqp (n : Nat) (l : List Pr) : (qr l).drop n = qr (l.drop n) := by simp [qr]
theorem qyt (b : Bool) (n off : Nat) (p : Pr) : fldv b n off (encR p) = ldc b n off (prc p) := rfl
theorem qkj {l : List Pr} {n : Nat} (h : (AV.sl n (qr l)).wf) : l.length ≤ maxLen ∧ ∀ p ∈ l, (encR p).wf := by
 refine ⟨by have := h.1; rwa [qb2] at this, fun p hp => (qr4 _).1 h.2 _ ?_⟩
 rw [qr]; exact List.mem_map_of_mem hp
attribute [go_sem] prc qyt qux qgc qb1 qkm qho qbaw qw6 qqq qrr ql0 qb2 qrj qqp
end Go.V
