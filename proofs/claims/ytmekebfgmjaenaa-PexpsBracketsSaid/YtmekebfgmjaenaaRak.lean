/- A text of this proof. -/
import Derived.Test.YtmekebfgmjaenaaRaf

/-
  Trees as data.
-/
namespace Go.V
open Go Go.RowKit
set_option linter.unusedVariables false

inductive N where
  | mk (kind pos num : Int) (text : List UInt8) (kids : List N)

def N.kind : N → Int | .mk k _ _ _ _ => k
def N.pos : N → Int | .mk _ p _ _ _ => p
def N.num : N → Int | .mk _ _ n _ _ => n
def N.text : N → List UInt8 | .mk _ _ _ t _ => t
def N.kids : N → List N | .mk _ _ _ _ ks => ks

mutual
def enc : N → AV
  | .mk k p n t ks => .agg [.int .i64 k, .int .i64 p, .int .i64 n, .str t, .sl 5 (encs ks)]
def encs : List N → List AV
  | [] => []
  | x :: r => enc x :: encs r
end
theorem qeb (l : List N) : encs l = l.map enc := by
  induction l with
  | nil => rfl
  | cons x r ih => simp [encs, ih]
theorem qh9 (n : N) : AV.agg [.int .i64 n.kind, .int .i64 n.pos, .int .i64 n.num, .str n.text, .sl 5 (encs n.kids)] = enc n := by
  cases n; simp only [enc, N.kind, N.pos, N.num, N.text, N.kids]
theorem q2o (n : N) : (enc n).cells = [.int .i64 n.kind, .int .i64 n.pos, .int .i64 n.num, .str n.text, .sl 5 (encs n.kids)] := by rw [← qh9]; rfl

theorem N.ind {p : N → Prop} (h : ∀ n : N, (∀ x ∈ n.kids, p x) → p n) : ∀ n, p n := by
  intro n
  refine N.rec (motive_1 := p) (motive_2 := fun l => ∀ x ∈ l, p x) (fun k ps n t ks ih => h (.mk k ps n t ks) ih) (fun x hx => by cases hx) (fun x r h1 h2 y hy => ?_) n
  rcases List.mem_cons.1 hy with rfl | hy
  · exact h1
  · exact h2 y hy

theorem ql4 (k : Nat) : ∀ n, (enc n).bd k = true := N.ind fun n ih => by
  simp only [← qh9 n, AV.bd, AV.bds, qeb, qwt, Bool.true_and, Bool.and_true, List.all_map, List.all_eq_true]
  exact ih
theorem qcm (k : Nat) (l : List N) : AV.bds k (encs l) = true := by
  rw [qeb, qwt, List.all_map, List.all_eq_true]; exact fun x _ => ql4 k x
theorem qbcs (σ : Nat → Nat) (n : N) : (enc n).ren σ = enc n := ren_same (m := 0) (fun i hi => by omega) _ (ql4 0 n)
theorem qdq (σ : Nat → Nat) (l : List N) : AV.rens σ (encs l) = encs l := qb2 (m := 0) (fun i hi => by omega) _ (qcm 0 l)
theorem qbiq (H : List Ent) (n : N) : co H (.agg [.id, .id, .id, .id, .sl 5]) (enc n) = enc n := by
  rw [← qh9]; simp only [q2d, qp5, qub, q0v, qvr]
theorem q5w (n : N) : rdCo (.agg [.id, .id, .id, .id, .sl 5]) (enc n) = [] := by
  rw [← qh9]; simp only [qqg, qj7, qn1, qu4, qo0, List.append_nil]
theorem qbfd (n : N) : (enc n).isAgg = true := by cases n; rfl
theorem qca (l : List N) : (encs l).length = l.length := by rw [qeb]; simp
theorem qy0 {l : List N} {i : Nat} (h : i < l.length) : (encs l).getD i .junk = enc l[i] := by rw [qeb, List.getD_eq_getElem?_getD, List.getElem?_map, List.getElem?_eq_getElem h]; rfl
def N.wf (n : N) : Prop := n.kids.length ≤ maxLen ∧ n.text.length ≤ maxLen ∧ (Lit.int .i64 n.kind).wf = true ∧ (Lit.int .i64 n.pos).wf = true ∧ (Lit.int .i64 n.num).wf = true ∧ ∀ x ∈ n.kids, (enc x).wf
theorem q7o (n : N) : (enc n).wf ↔ n.wf := by
  rw [← qh9]
  simp only [AV.wf, AV.wfs, qca, N.wf, qbem, qeb, List.mem_map, forall_exists_index, and_imp, forall_apply_eq_imp_iff₂, and_true]
  simp only [List.length_map]
  constructor
  · rintro ⟨h1, h2, h3, h4, h5, h6⟩; exact ⟨h5, h4, h1, h2, h3, h6⟩
  · rintro ⟨h1, h2, h3, h4, h5, h6⟩; exact ⟨h3, h4, h5, h2, h1, h6⟩
theorem qtr (n : N) : (enc n).leaf = false := by cases n; rfl
abbrev nc (n : N) : List AV := [.int .i64 n.kind, .int .i64 n.pos, .int .i64 n.num, .str n.text, .sl 5 (encs n.kids)]
attribute [go_sem] nc
def N0 : N := .mk 0 0 0 [] []
theorem qd {l : List N} {i : Nat} (h : i < l.length) : (encs l).getD i .junk = enc (l.getD i N0) := by
  rw [qy0 h, List.getD_eq_getElem?_getD, List.getElem?_eq_getElem h]; rfl
theorem qpv {l : List N} {i : Nat} (h : i < l.length) : l.getD i N0 ∈ l := by
  rw [List.getD_eq_getElem?_getD, List.getElem?_eq_getElem h]; exact List.getElem_mem h
theorem qbc9 {l : List N} {i : Nat} (h : i < l.length) : l.drop i = l.getD i N0 :: l.drop (i + 1) := by
  rw [List.drop_eq_getElem_cons h, List.getD_eq_getElem?_getD, List.getElem?_eq_getElem h]; rfl
attribute [go_sem] q5w ql4 qcm qbcs qdq qbiq qbfd q2o qh9 qtr qca
end Go.V
