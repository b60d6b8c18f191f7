/- Texts of this proof, joined. -/
import Derived.Test.YtfpobiheiloamaaJau
import Derived.Test.YtfpobiheiloamaaJbc
import Derived.Test.YtfpobiheiloamaaJbf
import Derived.Test.YtfpobiheiloamaaJbh

/- matching: the program's walk -/
set_option maxRecDepth 4000
namespace Go.Proofs.Ytfpobiheiloamaa
open Go Go.RowKit Go.V
set_option linter.unusedVariables false
set_option linter.unusedSimpArgs false

theorem qgv {a : Ty} (b : Ty) (h1 : szY a ≤ 20000) (h2 : dpY a ≤ 300) : qm Try.prog 121 [encY a, encY b] (.bool (qk a)) := by
 refine qf c0bf (by simp) (by simp only [go_sem]) rfl fun hw => ?_
 have hL := qb5 h1 h2
 repeat' (first | refine vs_ ?_ | ((first | refine vr_ ?_ | refine qa hL fun _ => ?_ | (refine cs_ ?_ ?_ <;> intro hc) | refine cj_ ?_ | fail) <;> (try refine ev_ ?_)) | with_reducible exact ti_)
theorem qx4 {l : List Ty} {i : Nat} (h : i < l.length) : (l.drop i).all qk = (qk (l.getD i Y0) && (l.drop (i + 1)).all qk) := by rw [qi4 h]; rfl
theorem qnb {l : List Ty} (hs : ∀ x ∈ l, szY x ≤ 20000 ∧ dpY x ≤ 300) : qm Try.prog 92 [.sl 3 (qp l), .sl 3 (qp l), .fn 121 [] []] (.bool (l.all qk)) := by
 refine qf c0bg (by simp) (by simp only [go_sem]) rfl fun hw => ?_
 have hl : l.length ≤ maxLen := by have := hw.1.1; rwa [qbg] at this
 repeat' (first | refine vs_ ?_ | ((first | refine vr_ ?_ | (refine cs_ ?_ ?_ <;> intro hc) | refine cj_ ?_ | simp (disch := omega) only [encs_getN, qb]) <;> (try refine ev_ ?_)) | with_reducible exact ti_)
 refine qs (S := Nat) (fun i => i ≤ l.length ∧ (l.drop i).all qk = l.all qk) (fun i => (⟨[(0, .sl 3 (qp l)), (1, .sl 3 (qp l)), (2, .fn 121 [] []), (14, .int .i64 l.length), (15, .int .i64 i)], []⟩, [])) (fun i => l.length - i) ?_ fun i hi => ?_
 ·refine qo 0 [] ⟨Nat.zero_le _, rfl⟩ rfl (by simp) ?_ ?_ ?_ <;> (try refine ev_ ?_) <;> (try with_reducible exact ti_) <;> (try simp (disch := omega) only [qb, and_true, true_and])
 ·obtain ⟨hi, ha⟩ := hi
  by_cases hlt : i < l.length
  ·have hx := hs _ (qbf hlt)
   rw [qx4 hlt] at ha
   repeat' (first | refine vs_ ?_ | ((first | refine vr_ ?_ | fail) <;> (try simp (disch := first | omega | (simp only [List.length_set, List.length_append, List.length_cons, List.length_nil]; done) | (simp only [List.length_set, List.length_append, List.length_cons, List.length_nil]; omega)) only [qr, qb, go_sem, ↓reduceIte])) | ((first | (refine cs_ ?_ ?_ <;> intro hc) | refine cj_ ?_ | simp (disch := omega) only [encs_getN, qb] | refine qa (qgv _ hx.1 hx.2) fun _ => ?_ | refine qd (qgv _ hx.1 hx.2) ?_) <;> (try refine ev_ ?_)) | with_reducible exact ti_)
   ·rw [← ha, hc]; rfl
   ·refine qo (i + 1) [] ⟨⟨by omega, by rw [← ha, hc, Bool.true_and]⟩, by omega⟩ rfl (by simp) ?_ ?_ ?_ <;> (try refine ev_ ?_) <;> (try with_reducible exact ti_) <;> (try simp (disch := omega) only [qb, and_true, true_and])
   ·exfalso; omega
  ·rw [List.drop_of_length_le (by omega)] at ha
   repeat' (first | refine vs_ ?_ | ((first | refine vr_ ?_ | (refine cs_ ?_ ?_ <;> intro hc) | refine cj_ ?_ | simp (disch := omega) only [encs_getN, qb]) <;> (try refine ev_ ?_)) | with_reducible exact ti_)
   all_goals first | (exfalso; omega) | (rw [← ha]; rfl)
theorem qhl {l : List Ty} (hs : ∀ x ∈ l, szY x ≤ 20000 ∧ dpY x ≤ 300) : qm Try.prog 91 [.sl 3 (qp l)] (.bool (l.all qk)) := by
 refine qf c0bh (by simp) (by simp only [go_sem]) rfl fun hw => ?_
 have hb := qnb hs
 repeat' (first | refine vs_ ?_ | ((first | refine vr_ ?_ | refine qa hb fun _ => ?_ | (refine cs_ ?_ ?_ <;> intro hc) | refine cj_ ?_ | fail) <;> (try refine ev_ ?_)) | with_reducible exact ti_)

/-! patterns that are let be types -/
abbrev capE : AV := .eptr 1 [.ptr 0 0] 0 0
def okO (s : List Pr) (k : Nat) (b : Ty) : Prop := okS s ∧ s.length + k ≤ 100000 ∧ szY b ≤ 20000 ∧ dpY b ≤ 300
def onVM (a b : Ty) (s : List Pr) : Prop := VM Try.prog 94 (subE s) (subE (onP a b s).1) [.ptr 0 0, encY a, encY b] (.bool (onP a b s).2)
theorem qbcl {a b : Ty} {s : List Pr} (h : onVM a b s) : VM Try.prog 122 (subE s) (subE (onP a b s).1) [encY a, encY b, capE] (.bool (onP a b s).2) := by
 refine qg c0bi 1 (by simp) (by simp) ?_
 repeat' (first | refine vs_ ?_ | ((first | refine vr_ ?_ | refine qbi 0 h ?_ | (refine cs_ ?_ ?_ <;> intro hc) | refine cj_ ?_ | fail) <;> (try refine ev_ ?_)) | with_reducible exact ti_)
theorem q9r {a b : Ty} {s : List Pr} (h : onVM a b s) : VM Try.prog 93 (subE s) (subE (onP a b s).1) [encY a, encY b, capE] (.bool (onP a b s).2) := by
 refine qg c0bj 1 (by simp) (by simp) ?_
 repeat' (first | refine vs_ ?_ | ((first | refine vr_ ?_ | refine qbi 0 h ?_ | (refine cs_ ?_ ?_ <;> intro hc) | refine cj_ ?_ | fail) <;> (try refine ev_ ?_)) | with_reducible exact ti_)
def onsI (l m : List Ty) (s : List Pr) (x : Nat × List Pr) : Prop := x.1 ≤ l.length ∧ onPs (l.drop x.1) (m.drop x.1) x.2 = onPs l m s ∧ okS x.2 ∧ x.2.length + szYs (l.drop x.1) ≤ 100000
theorem qhx {f : FuncId} {l m : List Ty} {s : List Pr} (hf : ∀ a ∈ l, ∀ b s, okO s (szY a) b → VM Try.prog f (subE s) (subE (onP a b s).1) [encY a, encY b, capE] (.bool (onP a b s).2)) (ho : okS s) (hs : s.length + szYs l ≤ 100000) (hm : ∀ b ∈ m, szY b ≤ 20000 ∧ dpY b ≤ 300) :
 VM Try.prog 92 (subE s) (subE (qgg l m s).1) [.sl 3 (qp l), .sl 3 (qp m), .fn f [] [capE]] (.bool (qgg l m s).2) := by
 refine qfr (by kernel_rfl) fun hw => ?_
 have hl : l.length ≤ maxLen := by have := hw.1.1; rwa [qbg] at this
 have hml : m.length ≤ maxLen := by have := hw.2.1.1; rwa [qbg] at this
 refine qg c0bg 1 (by simp) (by simp) ?_
 by_cases hlm : l.length = m.length
 ·rw [qgg, if_pos hlm]
  have hlmi : (l.length : Int) = m.length := by omega
  repeat' (first | refine vs_ ?_ | ((first | refine vr_ ?_ | fail) <;> (try simp only [hlmi, go_sem, ↓reduceIte])) | ((first | (refine cs_ ?_ ?_ <;> intro hc) | refine cj_ ?_ | simp (disch := omega) only [encs_getN, qb]) <;> (try refine ev_ ?_)) | with_reducible exact ti_)
  refine qs (S := Nat × List Pr) (onsI l m s) (fun x => (⟨[(0, .sl 3 (qp l)), (1, .sl 3 (qp m)), (2, .fn f [] [capE]), (14, .int .i64 l.length), (15, .int .i64 x.1)], []⟩, [subE x.2])) (fun x => l.length - x.1) ?_ fun x hx => ?_
  ·refine qo (0, s) [0] ⟨Nat.zero_le _, rfl, ho, hs⟩ rfl (by simp) ?_ ?_ ?_ <;> (try refine ev_ ?_) <;> (try with_reducible exact ti_) <;> (try simp (disch := omega) only [qb, and_true, true_and])
   rw [hlmi]
  ·obtain ⟨i, s1⟩ := x
   obtain ⟨hi, ha, ho1, hs1⟩ := hx
   dsimp only at hi ha ho1 hs1
   by_cases hlt : i < l.length
   ·have hmt : i < m.length := by omega
    have hb := hm _ (qbf hmt)
    rw [qse hlt hmt] at ha
    rw [qi4 hlt, szYs] at hs1
    have hon := hf _ (qbf hlt) (m.getD i Y0) s1 ⟨ho1, by omega, hb.1, hb.2⟩
    have hok := qz5 (l.getD i Y0) (m.getD i Y0) s1 ho1
    repeat' (first | refine vs_ ?_ | ((first | refine vr_ ?_ | fail) <;> (try simp (disch := first | omega | (simp only [List.length_set, List.length_append, List.length_cons, List.length_nil]; done) | (simp only [List.length_set, List.length_append, List.length_cons, List.length_nil]; omega)) only [qr, qb, go_sem, ↓reduceIte])) | ((first | (refine cs_ ?_ ?_ <;> intro hc) | refine cj_ ?_ | simp (disch := omega) only [encs_getN, qb] | refine qxr 0 hon ?_) <;> (try refine ev_ ?_)) | with_reducible exact ti_)
    ·rw [hc, if_neg (by simp)] at ha; rw [← ha]; exact ⟨rfl, rfl⟩
    ·rw [hc, if_pos rfl] at ha
     refine qo (i + 1, (onP (l.getD i Y0) (m.getD i Y0) s1).1) [0] ⟨⟨by dsimp only; omega, ha, hok.1, by dsimp only; omega⟩, by dsimp only; omega⟩ rfl (by simp) ?_ ?_ ?_ <;> (try refine ev_ ?_) <;> (try with_reducible exact ti_) <;> (try simp (disch := omega) only [qb, and_true, true_and])
    ·exfalso; omega
   ·rw [qzm (by omega)] at ha
    repeat' (first | refine vs_ ?_ | ((first | refine vr_ ?_ | (refine cs_ ?_ ?_ <;> intro hc) | refine cj_ ?_ | simp (disch := omega) only [encs_getN, qb]) <;> (try refine ev_ ?_)) | with_reducible exact ti_)
    all_goals first | (exfalso; omega) | (rw [← ha]; exact ⟨rfl, rfl⟩)
 ·rw [qgg, if_neg hlm]
  have hlmi : ¬ (l.length : Int) = m.length := by omega
  repeat' (first | refine vs_ ?_ | ((first | refine vr_ ?_ | fail) <;> (try simp only [hlmi, go_sem, ↓reduceIte])) | ((first | (refine cs_ ?_ ?_ <;> intro hc) | refine cj_ ?_ | simp (disch := omega) only [encs_getN, qb]) <;> (try refine ev_ ?_)) | with_reducible exact ti_)
theorem qwz : ∀ p t s, okO s (szY p) t → onVM p t s := by
 refine Ty.ind fun p ih t s ho => ?_
 obtain ⟨h1, h2, h3, h4⟩ := ho
 have hpp := qsg p
 unfold onVM
 refine qg c0bk 1 (by simp) (by simp) ?_
 rw [qbc8]
 unfold k0bk
 refine qbx (qeh ?_)
 (refine ev_ ?_; (try with_reducible exact ti_))
 refine qnv 1 3 0 0 rfl rfl ?_
 simp only [go_sem]
 have hG := qkj (s := s) h1.1 (by omega) p.var
 have hS := qkb (s := s) h1.1 (by omega) p.var h3 h4
 by_cases hc : p.con = []
 ·simp only [if_pos hc]
  cases hlk : qq p.var s with
  | some u =>
    have hv : getV s p.var = .tup [encY u, .bool true] := by rw [getV, hlk]; rfl
    rw [hv] at hG
    repeat' (first | refine vs_ ?_ | ((first | refine vr_ ?_ | fail) <;> (try simp only [hc, go_sem, ↓reduceIte])) | ((first | (refine cs_ ?_ ?_ <;> intro hc) | refine cj_ ?_ | fail | refine qf1 0 hG rfl (by simp only [AV.bd, AV.bds, qbe, Bool.and_true]) ?_ | refine qa (qq0 _ _) fun _ => ?_) <;> (try refine ev_ ?_)) | with_reducible exact ti_)
  | none =>
    have hv : getV s p.var = .tup [encY Y0, .bool false] := by rw [getV, hlk]; rfl
    rw [hv] at hG
    repeat' (first | refine vs_ ?_ | ((first | refine vr_ ?_ | fail) <;> (try simp only [hc, go_sem, ↓reduceIte])) | ((first | (refine cs_ ?_ ?_ <;> intro hc) | refine cj_ ?_ | fail | refine qf1 0 hG rfl (by simp only [AV.bd, AV.bds, qbe, Bool.and_true]) ?_ | refine qf1 0 hS (by simp only [AV.bd, AV.bds, qbe, Bool.and_true]) rfl ?_) <;> (try refine ev_ ?_)) | with_reducible exact ti_)
 ·simp only [if_neg hc]
  by_cases hct : p.con = t.con
  ·have hb := qhx (f := 122) (l := p.args) (m := t.args) (s := s) (fun a ha b s' h => qbcl (ih a ha b s' h)) h1 (by rw [qfk] at h2; omega) (fun b hb => by
    have q1 := qie hb
    have q2 := qne hb
    rw [qfk] at h3
    rw [qr6] at h4
    omega)
   have e0 : (if p.args.length = t.args.length then onPs p.args t.args s else (s, false)) = qgg p.args t.args s := rfl
   have hcT : ¬ t.con = [] := hct ▸ hc
   simp only [if_pos hct, e0]
   repeat' (first | refine vs_ ?_ | ((first | refine vr_ ?_ | fail) <;> (try simp only [hc, hct, hcT, go_sem, ↓reduceIte])) | ((first | (refine cs_ ?_ ?_ <;> intro hc) | refine cj_ ?_ | fail | refine qbi 0 hb ?_) <;> (try refine ev_ ?_)) | with_reducible exact ti_)
  ·simp only [if_neg hct]
   repeat' (first | refine vs_ ?_ | ((first | refine vr_ ?_ | fail) <;> (try simp only [hc, hct, go_sem, ↓reduceIte])) | ((first | (refine cs_ ?_ ?_ <;> intro hc) | refine cj_ ?_ | fail) <;> (try refine ev_ ?_)) | with_reducible exact ti_)
set_option maxRecDepth 4000

def smlY (l : List Ty) : Prop := ∀ x ∈ l, szY x ≤ 20000 ∧ dpY x ≤ 300
theorem qsv {l m : List Ty} (hl : smlY l) (hm : smlY m) (h20 : l.length ≤ 20) : VCalls Try.prog 57 [] [.sl 3 (qp l), .sl 3 (qp m)] (newQ [] (allP l m)) := by
 have L1 := qhl hl
 have L2 := qhl hm
 by_cases h1 : l.all qk = true
 ·by_cases h2 : m.all qk = true
  ·rw [h1] at L1
   rw [h2] at L2
   have hs := qlc h1 h20
   have hb := qhx (f := 93) (l := l) (m := m) (s := []) (fun a ha b s' h => q9r (qwz a b s' h)) qep (by rw [List.length_nil]; omega) hm
   rw [allP, if_pos ⟨h1, h2⟩]
   cases hq : (qgg l m []).2 with
   | true =>
     rw [hq] at hb
     rw [if_pos rfl]
     refine qg c0bb 1 (by simp) (by simp) ?_
     unfold k0bb
     refine qbx (qeh ?_)
     (refine ev_ ?_; (try with_reducible exact ti_))
     refine qd7 (S := Unit) (fun _ => True) (fun _ => (⟨[(0, .sl 3 (qp l)), (1, .sl 3 (qp m))], []⟩, [])) ?_ fun _ _ => ?_
     ·repeat' (first | refine vs_ ?_ | ((first | refine vr_ ?_ | refine qa L1 fun _ => ?_ | refine qa L2 fun _ => ?_ | (refine cs_ ?_ ?_ <;> intro hc) | refine cj_ ?_ | fail) <;> (try refine ev_ ?_)) | with_reducible exact ti_)
      refine qo () [] trivial rfl (by simp) ?_ ?_ ?_ <;> (try refine ev_ ?_) <;> (try with_reducible exact ti_) <;> (try simp (disch := omega) only [qb, and_true, true_and])
     refine qd7 (S := Unit) (fun _ => True) (fun _ => (⟨[(0, .sl 3 (qp l)), (1, .sl 3 (qp m)), (6, .ptr 1 0)], []⟩, [subE [], .blk [.ptr 0 0]])) ?_ fun _ _ => ?_
     ·repeat' (first | refine vs_ ?_ | ((first | refine vr_ ?_ | refine qo6 qof rfl rfl ?_ | (refine cs_ ?_ ?_ <;> intro hc) | refine cj_ ?_ | fail) <;> (try refine ev_ ?_)) | with_reducible exact ti_)
      refine qo () [0, 1] trivial rfl (by simp) ?_ ?_ ?_ <;> (try refine ev_ ?_) <;> (try with_reducible exact ti_) <;> (try simp (disch := omega) only [qb, and_true, true_and])
     refine qnv 1 6 0 0 rfl rfl ?_
     simp only [go_sem]
     repeat' (first | refine vs_ ?_ | ((first | refine vr_ ?_ | refine qbi 0 hb ?_ | (refine cs_ ?_ ?_ <;> intro hc) | refine cj_ ?_ | fail) <;> (try refine ev_ ?_)) | with_reducible exact ti_)
     rw [newQ, if_pos rfl]; exact ⟨rfl, rfl⟩
   | false =>
     rw [hq] at hb
     rw [if_neg (by simp)]
     refine qg c0bb 0 (by simp) (by simp) ?_
     unfold k0bb
     refine qbx (qeh ?_)
     (refine ev_ ?_; (try with_reducible exact ti_))
     refine qd7 (S := Unit) (fun _ => True) (fun _ => (⟨[(0, .sl 3 (qp l)), (1, .sl 3 (qp m))], []⟩, [])) ?_ fun _ _ => ?_
     ·repeat' (first | refine vs_ ?_ | ((first | refine vr_ ?_ | refine qa L1 fun _ => ?_ | refine qa L2 fun _ => ?_ | (refine cs_ ?_ ?_ <;> intro hc) | refine cj_ ?_ | fail) <;> (try refine ev_ ?_)) | with_reducible exact ti_)
      refine qo () [] trivial rfl (by simp) ?_ ?_ ?_ <;> (try refine ev_ ?_) <;> (try with_reducible exact ti_) <;> (try simp (disch := omega) only [qb, and_true, true_and])
     refine qd7 (S := Unit) (fun _ => True) (fun _ => (⟨[(0, .sl 3 (qp l)), (1, .sl 3 (qp m)), (6, .ptr 1 0)], []⟩, [subE [], .blk [.ptr 0 0]])) ?_ fun _ _ => ?_
     ·repeat' (first | refine vs_ ?_ | ((first | refine vr_ ?_ | refine qo6 qof rfl rfl ?_ | (refine cs_ ?_ ?_ <;> intro hc) | refine cj_ ?_ | fail) <;> (try refine ev_ ?_)) | with_reducible exact ti_)
      refine qo () [0, 1] trivial rfl (by simp) ?_ ?_ ?_ <;> (try refine ev_ ?_) <;> (try with_reducible exact ti_) <;> (try simp (disch := omega) only [qb, and_true, true_and])
     refine qnv 1 6 0 0 rfl rfl ?_
     simp only [go_sem]
     repeat' (first | refine vs_ ?_ | ((first | refine vr_ ?_ | refine qbi 0 hb ?_ | (refine cs_ ?_ ?_ <;> intro hc) | refine cj_ ?_ | fail) <;> (try refine ev_ ?_)) | with_reducible exact ti_)
     rw [newQ, if_neg (by simp)]; exact ⟨rfl, rfl⟩
  ·have h2 : m.all qk = false := by simpa using h2
   rw [h1] at L1
   rw [h2] at L2
   rw [allP, if_neg (by simp [h2])]
   refine qg c0bb 0 (by simp) (by simp) ?_
   repeat' (first | refine vs_ ?_ | ((first | refine vr_ ?_ | refine qa L1 fun _ => ?_ | refine qa L2 fun _ => ?_ | (refine cs_ ?_ ?_ <;> intro hc) | refine cj_ ?_ | fail) <;> (try refine ev_ ?_)) | with_reducible exact ti_)
   rw [newQ, if_neg (by simp)]; exact ⟨rfl, rfl⟩
 ·have h1 : l.all qk = false := by simpa using h1
  rw [h1] at L1
  rw [allP, if_neg (by simp [h1])]
  refine qg c0bb 0 (by simp) (by simp) ?_
  repeat' (first | refine vs_ ?_ | ((first | refine vr_ ?_ | refine qa L1 fun _ => ?_ | (refine cs_ ?_ ?_ <;> intro hc) | refine cj_ ?_ | fail) <;> (try refine ev_ ?_)) | with_reducible exact ti_)
  rw [newQ, if_neg (by simp)]; exact ⟨rfl, rfl⟩
section
variable {L : List Ent} {Q : List Ent → VO → Prop} {s : List Pr}
theorem qpm {f : FuncId} {args : List AV} {q : List Pr × Int} (h : VCalls Try.prog f [] args (newQ [] q)) (ha : AV.bds 0 args = true) (hq : if q.2 = 0 then Q (L ++ [subE q.1]) (.val (.tup [.ptr L.length 0, .int .i64 0])) else Q L (.val (.tup [.nilp, .int .i64 q.2]))) : VApp Try.prog L (.fn f [] []) args Q := by
 refine qco ?_
 rw [List.nil_append, List.append_nil]
 refine qbs [] h (by simp) trivial ha (ql (m := 0) (fun i hi => by omega) _ ha).symm fun H1 o ho => ?_
 rw [newQ] at ho
 split at ho
 ·rename_i he
  rw [if_pos he] at hq
  obtain ⟨rfl, rfl⟩ := ho
  show Q _ (.val (.tup [.ptr (L.length + (0 - 0)) 0, .int .i64 0]))
  exact hq
 ·rename_i he
  rw [if_neg he] at hq
  obtain ⟨rfl, rfl⟩ := ho
  have e1 : qih L [] [] = L := by
   show L ++ [] = _
   rw [List.append_nil]
  rw [e1]
  exact hq
theorem qka {f : FuncId} {args : List AV} {q : List Pr × Int} (h : VCalls Try.prog f [] args (newQ [] q)) (ha : AV.bds 0 args = true) (he : q = (s, 0)) (hq : Q (L ++ [subE s]) (.val (.tup [.ptr L.length 0, .int .i64 0]))) : VApp Try.prog L (.fn f [] []) args Q :=
 qpm h ha (by subst he; rw [if_pos rfl]; exact hq)
theorem qkw {f : FuncId} {args : List AV} {q : List Pr × Int} {e : Int} (h : VCalls Try.prog f [] args (newQ [] q)) (ha : AV.bds 0 args = true) (he : q = (s, e)) (hne : e ≠ 0) (hq : Q L (.val (.tup [.nilp, .int .i64 e]))) : VApp Try.prog L (.fn f [] []) args Q :=
 qpm h ha (by subst he; rw [if_neg hne]; exact hq)
end
theorem qto {t : Ty} (h1 : szY t ≤ 20000) (h2 : dpY t ≤ 300) : smlY [t] := fun x hx => by rw [List.mem_singleton] at hx; subst hx; exact ⟨h1, h2⟩
theorem qdi {p t : Ty} (h1 : szY p ≤ 20000) (h2 : dpY p ≤ 300) (h3 : szY t ≤ 20000) (h4 : dpY t ≤ 300) : VCalls Try.prog 52 [] [encY p, encY t] (newQ [] (matP p t)) := by
 have hA := qsv (qto h1 h2) (qto h3 h4) (by simp)
 have hb : AV.bds 0 [.sl 3 (qp [p]), .sl 3 (qp [t])] = true := by simp only [AV.bds, AV.bd, qb2, Bool.and_true]
 have hm : matP p t = allP [p] [t] := rfl
 rw [hm]
 generalize allP [p] [t] = q at hA ⊢
 obtain ⟨q1, e⟩ := q
 by_cases he : e = 0
 ·subst he
  refine qg c0bc 1 (by simp) (by simp) ?_
  unfold k0bc
  refine qbx (qeh ?_)
  (refine ev_ ?_; (try with_reducible exact ti_))
  refine qd7 (S := Unit) (fun _ => True) (fun _ => (⟨[(4, .ptr 0 0), (5, .int .i64 0)], []⟩, [subE q1])) ?_ fun _ _ => ?_
  ·repeat' (first | refine vs_ ?_ | ((first | refine vr_ ?_ | refine qka hA hb rfl ?_ | (refine cs_ ?_ ?_ <;> intro hc) | refine cj_ ?_ | fail) <;> (try refine ev_ ?_)) | with_reducible exact ti_)
   refine qo () [2] trivial rfl (by simp) ?_ ?_ ?_ <;> (try refine ev_ ?_) <;> (try with_reducible exact ti_) <;> (try simp (disch := omega) only [qb, and_true, true_and])
  ·repeat' (first | refine vs_ ?_ | ((first | refine vr_ ?_ | (refine cs_ ?_ ?_ <;> intro hc) | refine cj_ ?_ | fail) <;> (try refine ev_ ?_)) | with_reducible exact ti_)
   rw [newQ, if_pos rfl]; exact ⟨rfl, rfl⟩
 ·refine qg c0bc 0 (by simp) (by simp) ?_
  repeat' (first | refine vs_ ?_ | ((first | refine vr_ ?_ | refine qkw hA hb rfl he ?_ | (refine cs_ ?_ ?_ <;> intro hc) | refine cj_ ?_ | fail) <;> (try refine ev_ ?_)) | with_reducible exact ti_)
  rw [newQ, if_neg he]; exact ⟨rfl, rfl⟩
theorem qdj {p t : Ty} (h1 : szY p ≤ 20000) (h2 : dpY p ≤ 300) (h3 : szY t ≤ 20000) (h4 : dpY t ≤ 300) : qm Try.prog 54 [encY p, encY t] (.bool (abvP p t)) := by
 have hM := qdi h1 h2 h3 h4
 have hb : AV.bds 0 [encY p, encY t] = true := by simp only [AV.bds, AV.bd, qbe, Bool.and_true]
 refine qf c0bd (by simp) (by simp only [go_sem]) rfl fun hw => ?_
 have hv : abvP p t = decide ((matP p t).2 = 0) := rfl
 rw [hv]
 generalize matP p t = q at hM ⊢
 obtain ⟨q1, e⟩ := q
 by_cases he : e = 0
 ·subst he
  repeat' (first | refine vs_ ?_ | ((first | refine vr_ ?_ | refine qka hM hb rfl ?_ | (refine cs_ ?_ ?_ <;> intro hc) | refine cj_ ?_ | fail) <;> (try refine ev_ ?_)) | with_reducible exact ti_)
 ·have hd : decide (e = 0) = false := decide_eq_false he
  repeat' (first | refine vs_ ?_ | ((first | refine vr_ ?_ | fail) <;> (try simp only [hd, go_sem, ↓reduceIte])) | ((first | (refine cs_ ?_ ?_ <;> intro hc) | refine cj_ ?_ | fail | refine qkw hM hb rfl he ?_) <;> (try refine ev_ ?_)) | with_reducible exact ti_)
theorem qh4 {p t : Ty} (h1 : szY p ≤ 20000) (h2 : dpY p ≤ 300) (h3 : szY t ≤ 20000) (h4 : dpY t ≤ 300) : qm Try.prog 56 [encY p, encY t] (.bool (abvP p t && abvP t p)) := by
 refine qf c0be (by simp) (by simp only [go_sem]) rfl fun hw => ?_
 have f1 := qdj h1 h2 h3 h4
 have f2 := qdj h3 h4 h1 h2
 cases hq : abvP p t with
 | true =>
   rw [hq] at f1
   repeat' (first | refine vs_ ?_ | ((first | refine vr_ ?_ | refine qa f1 fun _ => ?_ | refine qa f2 fun _ => ?_ | (refine cs_ ?_ ?_ <;> intro hc) | refine cj_ ?_ | fail) <;> (try refine ev_ ?_)) | with_reducible exact ti_)
 | false =>
   rw [hq] at f1
   repeat' (first | refine vs_ ?_ | ((first | refine vr_ ?_ | refine qa f1 fun _ => ?_ | refine qa f2 fun _ => ?_ | (refine cs_ ?_ ?_ <;> intro hc) | refine cj_ ?_ | fail) <;> (try refine ev_ ?_)) | with_reducible exact ti_)
end Go.Proofs.Ytfpobiheiloamaa
