/- Texts of this proof, joined. -/
import Derived.Test.YtlahgbhhejkgbaaGreatLaj

/- predicates, pairs as data -/
namespace Go.V
open Go Go.RowKit
set_option linter.unusedVariables false


structure Pr where
 v : Int
 ty : Ty
def encR (p : Pr) : AV := .agg [.int .i64 p.v, .str p.ty.con, .int .i64 p.ty.var, .sl 3 (qq p.ty.args)]
def qw (l : List Pr) : List AV := l.map encR
def R0 : Pr := ⟨0, Y0⟩
abbrev prc (p : Pr) : List AV := [.int .i64 p.v, .str p.ty.con, .int .i64 p.ty.var, .sl 3 (qq p.ty.args)]
theorem qzg (p : Pr) : AV.agg [.int .i64 p.v, .str p.ty.con, .int .i64 p.ty.var, .sl 3 (qq p.ty.args)] = encR p := rfl
theorem qua (p : Pr) : (encR p).cells = prc p := rfl
theorem qhj (k : Nat) (p : Pr) : (encR p).bd k = true := by simp only [encR, AV.bd, AV.bds, qcd, Bool.and_true]
theorem qbx (k : Nat) (l : List Pr) : AV.bds k (qw l) = true := by rw [qw, qdb, List.all_map, List.all_eq_true]; exact fun x _ => qhj k x
theorem qnd (σ : Nat → Nat) (p : Pr) : (encR p).ren σ = encR p := ren_same (m := 0) (fun i hi => by omega) _ (qhj 0 p)
theorem qji (σ : Nat → Nat) (l : List Pr) : AV.rens σ (qw l) = qw l := qr (m := 0) (fun i hi => by omega) _ (qbx 0 l)
theorem qbft (H : List Ent) (p : Pr) : co H (.agg [.id, .id, .id, .sl 3]) (encR p) = encR p := by
 simp only [encR, qrs, qin, qmv, quh, qir]
theorem qxj (p : Pr) : rdCo (.agg [.id, .id, .id, .sl 3]) (encR p) = [] := by
 simp only [encR, qi2, qfe, qg3, qnf, qff, List.append_nil]
theorem q1u (p : Pr) : (encR p).isAgg = true := rfl
theorem qnj (p : Pr) : (encR p).leaf = false := rfl
theorem qce (l : List Pr) : (qw l).length = l.length := by simp [qw]
theorem qy {l : List Pr} {i : Nat} (h : i < l.length) : (qw l).getD i .junk = encR (l.getD i R0) := by
 rw [qw, List.getD_eq_getElem?_getD, List.getElem?_map, List.getElem?_eq_getElem h, List.getD_eq_getElem?_getD, List.getElem?_eq_getElem h]; rfl
theorem qfa {l : List Pr} {i : Nat} (h : i < l.length) : l.getD i R0 ∈ l := by
 rw [List.getD_eq_getElem?_getD, List.getElem?_eq_getElem h]; exact List.getElem_mem h
theorem qbmm {l : List Pr} {i : Nat} (h : i < l.length) : l.drop i = l.getD i R0 :: l.drop (i + 1) := by
 rw [List.drop_eq_getElem_cons h, List.getD_eq_getElem?_getD, List.getElem?_eq_getElem h]; rfl
theorem qvc (l : List Pr) (p : Pr) : qw l ++ [encR p] = qw (l ++ [p]) := by simp [qw]
theorem qvq : qw [] = [] := rfl
theorem quq (n : Nat) (l : List Pr) : (qw l).take n = qw (l.take n) := by simp [qw]
theorem qu4 (n : Nat) (l : List Pr) : (qw l).drop n = qw (l.drop n) := by simp [qw]
theorem q07 (b : Bool) (n off : Nat) (p : Pr) : fldv b n off (encR p) = ldc b n off (prc p) := rfl
theorem qi3 {l : List Pr} {n : Nat} (h : (AV.sl n (qw l)).wf) : l.length ≤ maxLen ∧ ∀ p ∈ l, (encR p).wf := by
 refine ⟨by have := h.1; rwa [qce] at this, fun p hp => (qzy _).1 h.2 _ ?_⟩
 rw [qw]; exact List.mem_map_of_mem hp
attribute [go_sem] prc q07 qxj qhj qbx qnd qji qbft q1u qua qzg qnj qce quq qu4
end Go.V
