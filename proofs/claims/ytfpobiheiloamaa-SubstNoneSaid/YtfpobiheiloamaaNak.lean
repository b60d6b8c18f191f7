/- A text of this proof. -/
import Derived.Test.YtfpobiheiloamaaNai

/- pairs of a variable and a type, as data -/
namespace Go.V
open Go Go.RowKit
set_option linter.unusedVariables false

structure Pr where
 v : Int
 ty : Ty
def encR (p : Pr) : AV := .agg [.int .i64 p.v, .str p.ty.con, .int .i64 p.ty.var, .sl 3 (qs p.ty.args)]
def qk (l : List Pr) : List AV := l.map encR
def R0 : Pr := ⟨0, Y0⟩
abbrev prc (p : Pr) : List AV := [.int .i64 p.v, .str p.ty.con, .int .i64 p.ty.var, .sl 3 (qs p.ty.args)]
theorem qub (p : Pr) : AV.agg [.int .i64 p.v, .str p.ty.con, .int .i64 p.ty.var, .sl 3 (qs p.ty.args)] = encR p := rfl
theorem qqv (p : Pr) : (encR p).cells = prc p := rfl
theorem qeq (k : Nat) (p : Pr) : (encR p).bd k = true := by simp only [encR, AV.bd, AV.bds, qch, Bool.and_true]
theorem qbh (k : Nat) (l : List Pr) : AV.bds k (qk l) = true := by rw [qk, qdi, List.all_map, List.all_eq_true]; exact fun x _ => qeq k x
theorem qkc (σ : Nat → Nat) (p : Pr) : (encR p).ren σ = encR p := ren_same (m := 0) (fun i hi => by omega) _ (qeq 0 p)
theorem qhp (σ : Nat → Nat) (l : List Pr) : AV.rens σ (qk l) = qk l := qp (m := 0) (fun i hi => by omega) _ (qbh 0 l)
theorem q7x (H : List Ent) (p : Pr) : co H (.agg [.id, .id, .id, .sl 3]) (encR p) = encR p := by
 simp only [encR, qtc, qkj, qn5, q7m, qj8]
theorem qs1 (p : Pr) : rdCo (.agg [.id, .id, .id, .sl 3]) (encR p) = [] := by
 simp only [encR, qkb, qfr, qhw, qm5, qfy, List.append_nil]
theorem qxh (p : Pr) : (encR p).isAgg = true := rfl
theorem qkz (p : Pr) : (encR p).leaf = false := rfl
theorem qb0 (l : List Pr) : (qk l).length = l.length := by simp [qk]
theorem qh {l : List Pr} {i : Nat} (h : i < l.length) : (qk l).getD i .junk = encR (l.getD i R0) := by
 rw [qk, List.getD_eq_getElem?_getD, List.getElem?_map, List.getElem?_eq_getElem h, List.getD_eq_getElem?_getD, List.getElem?_eq_getElem h]; rfl
theorem qbz {l : List Pr} {i : Nat} (h : i < l.length) : l.getD i R0 ∈ l := by
 rw [List.getD_eq_getElem?_getD, List.getElem?_eq_getElem h]; exact List.getElem_mem h
theorem qyd {l : List Pr} {i : Nat} (h : i < l.length) : l.drop i = l.getD i R0 :: l.drop (i + 1) := by
 rw [List.drop_eq_getElem_cons h, List.getD_eq_getElem?_getD, List.getElem?_eq_getElem h]; rfl
theorem qp7 (l : List Pr) (p : Pr) : qk l ++ [encR p] = qk (l ++ [p]) := by simp [qk]
theorem quy : qk [] = [] := rfl
theorem qqi (n : Nat) (l : List Pr) : (qk l).take n = qk (l.take n) := by simp [qk]
theorem qqm (n : Nat) (l : List Pr) : (qk l).drop n = qk (l.drop n) := by simp [qk]
theorem qyw (b : Bool) (n off : Nat) (p : Pr) : fldv b n off (encR p) = ldc b n off (prc p) := rfl
theorem qd7 {l : List Pr} {n : Nat} (h : (AV.sl n (qk l)).wf) : l.length ≤ maxLen ∧ ∀ p ∈ l, (encR p).wf := by
 refine ⟨by have := h.1; rwa [qb0] at this, fun p hp => (qsl _).1 h.2 _ ?_⟩
 rw [qk]; exact List.mem_map_of_mem hp
attribute [go_sem] prc qyw qs1 qeq qbh qkc qhp q7x qxh qqv qub qkz qb0 qqi qqm
end Go.V
