/- A text of this proof. -/
import Derived.Test.YtfpobiheiloamaaJai

/- pairs of a variable and a type, as data -/
namespace Go.V
open Go Go.RowKit
set_option linter.unusedVariables false

structure Pr where
 v : Int
 ty : Ty
def encR (p : Pr) : AV := .agg [.int .i64 p.v, .str p.ty.con, .int .i64 p.ty.var, .sl 3 (qp p.ty.args)]
def qbj (l : List Pr) : List AV := l.map encR
def R0 : Pr := ⟨0, Y0⟩
abbrev prc (p : Pr) : List AV := [.int .i64 p.v, .str p.ty.con, .int .i64 p.ty.var, .sl 3 (qp p.ty.args)]
theorem qtd (p : Pr) : AV.agg [.int .i64 p.v, .str p.ty.con, .int .i64 p.ty.var, .sl 3 (qp p.ty.args)] = encR p := rfl
theorem qrn (p : Pr) : (encR p).cells = prc p := rfl
theorem qf8 (k : Nat) (p : Pr) : (encR p).bd k = true := by simp only [encR, AV.bd, AV.bds, qb2, Bool.and_true]
theorem qcb (k : Nat) (l : List Pr) : AV.bds k (qbj l) = true := by rw [qbj, qdn, List.all_map, List.all_eq_true]; exact fun x _ => qf8 k x
theorem qk8 (σ : Nat → Nat) (p : Pr) : (encR p).ren σ = encR p := ren_same (m := 0) (fun i hi => by omega) _ (qf8 0 p)
theorem qhe (σ : Nat → Nat) (l : List Pr) : AV.rens σ (qbj l) = qbj l := ql (m := 0) (fun i hi => by omega) _ (qcb 0 l)
theorem q70 (H : List Ent) (p : Pr) : co H (.agg [.id, .id, .id, .sl 3]) (encR p) = encR p := by
 simp only [encR, qsx, qj8, qnx, qu3, qj5]
theorem qup (p : Pr) : rdCo (.agg [.id, .id, .id, .sl 3]) (encR p) = [] := by
 simp only [encR, qkh, qfx, qip, qod, qgi, List.append_nil]
theorem qx9 (p : Pr) : (encR p).isAgg = true := rfl
theorem qlz (p : Pr) : (encR p).leaf = false := rfl
theorem qc6 (l : List Pr) : (qbj l).length = l.length := by simp [qbj]
theorem qch {l : List Pr} {i : Nat} (h : i < l.length) : (qbj l).getD i .junk = encR (l.getD i R0) := by
 rw [qbj, List.getD_eq_getElem?_getD, List.getElem?_map, List.getElem?_eq_getElem h, List.getD_eq_getElem?_getD, List.getElem?_eq_getElem h]; rfl
theorem qg3 {l : List Pr} {i : Nat} (h : i < l.length) : l.getD i R0 ∈ l := by
 rw [List.getD_eq_getElem?_getD, List.getElem?_eq_getElem h]; exact List.getElem_mem h
theorem qqi (l : List Pr) (p : Pr) : qbj l ++ [encR p] = qbj (l ++ [p]) := by simp [qbj]
theorem qtz : qbj [] = [] := rfl
theorem qrz (n : Nat) (l : List Pr) : (qbj l).take n = qbj (l.take n) := by simp [qbj]
theorem qqk (n : Nat) (l : List Pr) : (qbj l).drop n = qbj (l.drop n) := by simp [qbj]
theorem qwk (b : Bool) (n off : Nat) (p : Pr) : fldv b n off (encR p) = ldc b n off (prc p) := rfl
attribute [go_sem] prc qwk qup qf8 qcb qk8 qhe q70 qx9 qrn qtd qlz qc6 qrz qqk
end Go.V
