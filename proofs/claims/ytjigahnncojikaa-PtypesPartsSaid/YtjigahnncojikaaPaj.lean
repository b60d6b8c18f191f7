/- A text of this proof. -/
import Derived.Test.YtjigahnncojikaaPae

/-
  Trees as data.
-/
namespace Go.V
open Go Go.RowKit
set_option linter.unusedVariables false

inductive N where
  | mk (kind pos num : Int) (text : List UInt8) (kids : List N)

def N.kind : N → Int | .mk k _ _ _ _ => k
def N.pos : N → Int | .mk _ p _ _ _ => p
def N.num : N → Int | .mk _ _ n _ _ => n
def N.text : N → List UInt8 | .mk _ _ _ t _ => t
def N.kids : N → List N | .mk _ _ _ _ ks => ks

mutual
def enc : N → AV
  | .mk k p n t ks => .agg [.int .i64 k, .int .i64 p, .int .i64 n, .str t, .sl 5 (encs ks)]
def encs : List N → List AV
  | [] => []
  | x :: r => enc x :: encs r
end
theorem encs_map (l : List N) : encs l = l.map enc := by
  induction l with
  | nil => rfl
  | cons x r ih => simp [encs, ih]
theorem enc_fold (n : N) : AV.agg [.int .i64 n.kind, .int .i64 n.pos, .int .i64 n.num, .str n.text, .sl 5 (encs n.kids)] = enc n := by
  cases n; simp only [enc, N.kind, N.pos, N.num, N.text, N.kids]
theorem enc_cells (n : N) : (enc n).cells = [.int .i64 n.kind, .int .i64 n.pos, .int .i64 n.num, .str n.text, .sl 5 (encs n.kids)] := by rw [← enc_fold]; rfl

theorem N.ind {p : N → Prop} (h : ∀ n : N, (∀ x ∈ n.kids, p x) → p n) : ∀ n, p n := by
  intro n
  refine N.rec (motive_1 := p) (motive_2 := fun l => ∀ x ∈ l, p x) (fun k ps n t ks ih => h (.mk k ps n t ks) ih) (fun x hx => by cases hx) (fun x r h1 h2 y hy => ?_) n
  rcases List.mem_cons.1 hy with rfl | hy
  · exact h1
  · exact h2 y hy

theorem enc_bd (k : Nat) : ∀ n, (enc n).bd k = true := N.ind fun n ih => by
  simp only [← enc_fold n, AV.bd, AV.bds, encs_map, bds_eq, Bool.true_and, Bool.and_true, List.all_map, List.all_eq_true]
  exact ih
theorem encs_bd (k : Nat) (l : List N) : AV.bds k (encs l) = true := by
  rw [encs_map, bds_eq, List.all_map, List.all_eq_true]; exact fun x _ => enc_bd k x
theorem enc_ren (σ : Nat → Nat) (n : N) : (enc n).ren σ = enc n := ren_same (m := 0) (fun i hi => by omega) _ (enc_bd 0 n)
theorem encs_ren (σ : Nat → Nat) (l : List N) : AV.rens σ (encs l) = encs l := rens_same (m := 0) (fun i hi => by omega) _ (encs_bd 0 l)
theorem enc_co (H : List Ent) (n : N) : co H (.agg [.id, .id, .id, .id, .sl 5]) (enc n) = enc n := by
  rw [← enc_fold]; simp only [co_agg, cos_cons, cos_nil, co_id, co_sl_sl]
theorem enc_rdCo (n : N) : rdCo (.agg [.id, .id, .id, .id, .sl 5]) (enc n) = [] := by
  rw [← enc_fold]; simp only [rdCo_agg, rdCos_cons, rdCos_nil, rdCo_id, rdCo_sl_sl, List.append_nil]
theorem enc_agg (n : N) : (enc n).isAgg = true := by cases n; rfl
theorem encs_len (l : List N) : (encs l).length = l.length := by rw [encs_map]; simp
theorem encs_getD {l : List N} {i : Nat} (h : i < l.length) : (encs l).getD i .junk = enc l[i] := by rw [encs_map, List.getD_eq_getElem?_getD, List.getElem?_map, List.getElem?_eq_getElem h]; rfl
def N.wf (n : N) : Prop := n.kids.length ≤ maxLen ∧ n.text.length ≤ maxLen ∧ (Lit.int .i64 n.kind).wf = true ∧ (Lit.int .i64 n.pos).wf = true ∧ (Lit.int .i64 n.num).wf = true ∧ ∀ x ∈ n.kids, (enc x).wf
theorem enc_wf (n : N) : (enc n).wf ↔ n.wf := by
  rw [← enc_fold]
  simp only [AV.wf, AV.wfs, encs_len, N.wf, wfs_iff, encs_map, List.mem_map, forall_exists_index, and_imp, forall_apply_eq_imp_iff₂, and_true]
  simp only [List.length_map]
  constructor
  · rintro ⟨h1, h2, h3, h4, h5, h6⟩; exact ⟨h5, h4, h1, h2, h3, h6⟩
  · rintro ⟨h1, h2, h3, h4, h5, h6⟩; exact ⟨h3, h4, h5, h2, h1, h6⟩
theorem enc_notleaf (n : N) : (enc n).leaf = false := by cases n; rfl
abbrev nc (n : N) : List AV := [.int .i64 n.kind, .int .i64 n.pos, .int .i64 n.num, .str n.text, .sl 5 (encs n.kids)]
attribute [go_sem] nc
def N0 : N := .mk 0 0 0 [] []
theorem encs_getN {l : List N} {i : Nat} (h : i < l.length) : (encs l).getD i .junk = enc (l.getD i N0) := by
  rw [encs_getD h, List.getD_eq_getElem?_getD, List.getElem?_eq_getElem h]; rfl
theorem getN_mem {l : List N} {i : Nat} (h : i < l.length) : l.getD i N0 ∈ l := by
  rw [List.getD_eq_getElem?_getD, List.getElem?_eq_getElem h]; exact List.getElem_mem h
theorem dropN {l : List N} {i : Nat} (h : i < l.length) : l.drop i = l.getD i N0 :: l.drop (i + 1) := by
  rw [List.drop_eq_getElem_cons h, List.getD_eq_getElem?_getD, List.getElem?_eq_getElem h]; rfl
attribute [go_sem] enc_rdCo enc_bd encs_bd enc_ren encs_ren enc_co enc_agg enc_cells enc_fold enc_notleaf encs_len
end Go.V
