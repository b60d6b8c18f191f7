/- Texts of this proof, joined. -/
import Derived.Test.YtbbjelfnocmaoaaGreatBbq
import Derived.Test.YtbbjelfnocmaoaaGreatBbg
import Derived.Test.YtbbjelfnocmaoaaGreatBbm
import Derived.Test.YtbbjelfnocmaoaaGreatBbe

/- matching: the program's walk -/
set_option maxRecDepth 4000
namespace Go.Proofs.YtbbjelfnocmaoaaGreat
open Go Go.RowKit Go.V
set_option linter.unusedVariables false
set_option linter.unusedSimpArgs false

theorem qhs {a : Ty} (b : Ty) (h1 : szY a ≤ 20000) (h2 : dpY a ≤ 300) : qj Tryz.prog 112 [encY a, encY b] (.bool (qg a)) := by
 refine qd c0dm (by simp) (by simp only [go_sem]) rfl fun hw => ?_
 have hL := qch h1 h2
 repeat' (first | refine vs_ ?_ | ((first | refine vr_ ?_ | refine qa hL fun _ => ?_ | (refine cs_ ?_ ?_ <;> intro hc) | refine cj_ ?_ | fail) <;> (try refine ev_ ?_)) | with_reducible exact ti_)
theorem q3n {l : List Ty} {i : Nat} (h : i < l.length) : (l.drop i).all qg = (qg (l.getD i Y0) && (l.drop (i + 1)).all qg) := by rw [qg5 h]; rfl
theorem qqa {l : List Ty} (hs : ∀ x ∈ l, szY x ≤ 20000 ∧ dpY x ≤ 300) : qj Tryz.prog 92 [.sl 3 (qi l), .sl 3 (qi l), .fn 112 [] []] (.bool (l.all qg)) := by
 refine qd c0dn (by simp) (by simp only [go_sem]) rfl fun hw => ?_
 have hl : l.length ≤ maxLen := by have := hw.1.1; rwa [qn] at this
 repeat' (first | refine vs_ ?_ | ((first | refine vr_ ?_ | (refine cs_ ?_ ?_ <;> intro hc) | refine cj_ ?_ | simp (disch := omega) only [encs_getN, qb]) <;> (try refine ev_ ?_)) | with_reducible exact ti_)
 refine qo (S := Nat) (fun i => i ≤ l.length ∧ (l.drop i).all qg = l.all qg) (fun i => (⟨[(0, .sl 3 (qi l)), (1, .sl 3 (qi l)), (2, .fn 112 [] []), (14, .int .i64 l.length), (15, .int .i64 i)], []⟩, [])) (fun i => l.length - i) ?_ fun i hi => ?_
 ·refine qh 0 [] ⟨Nat.zero_le _, rfl⟩ rfl (by simp) ?_ ?_ ?_ <;> (try refine ev_ ?_) <;> (try with_reducible exact ti_) <;> (try simp (disch := omega) only [qb, and_true, true_and])
 ·obtain ⟨hi, ha⟩ := hi
  by_cases hlt : i < l.length
  ·have hx := hs _ (qx hlt)
   rw [q3n hlt] at ha
   repeat' (first | refine vs_ ?_ | ((first | refine vr_ ?_ | fail) <;> (try simp (disch := first | omega | (simp only [List.length_set, List.length_append, List.length_cons, List.length_nil]; done) | (simp only [List.length_set, List.length_append, List.length_cons, List.length_nil]; omega)) only [qu, qb, go_sem, ↓reduceIte])) | ((first | (refine cs_ ?_ ?_ <;> intro hc) | refine cj_ ?_ | simp (disch := omega) only [encs_getN, qb] | refine qa (qhs _ hx.1 hx.2) fun _ => ?_ | refine qc (qhs _ hx.1 hx.2) ?_) <;> (try refine ev_ ?_)) | with_reducible exact ti_)
   ·rw [← ha, hc]; rfl
   ·refine qh (i + 1) [] ⟨⟨by omega, by rw [← ha, hc, Bool.true_and]⟩, by omega⟩ rfl (by simp) ?_ ?_ ?_ <;> (try refine ev_ ?_) <;> (try with_reducible exact ti_) <;> (try simp (disch := omega) only [qb, and_true, true_and])
   ·exfalso; omega
  ·rw [List.drop_of_length_le (by omega)] at ha
   repeat' (first | refine vs_ ?_ | ((first | refine vr_ ?_ | (refine cs_ ?_ ?_ <;> intro hc) | refine cj_ ?_ | simp (disch := omega) only [encs_getN, qb]) <;> (try refine ev_ ?_)) | with_reducible exact ti_)
   all_goals first | (exfalso; omega) | (rw [← ha]; rfl)
theorem qio {l : List Ty} (hs : ∀ x ∈ l, szY x ≤ 20000 ∧ dpY x ≤ 300) : qj Tryz.prog 91 [.sl 3 (qi l)] (.bool (l.all qg)) := by
 refine qd c0do (by simp) (by simp only [go_sem]) rfl fun hw => ?_
 have hb := qqa hs
 repeat' (first | refine vs_ ?_ | ((first | refine vr_ ?_ | refine qa hb fun _ => ?_ | (refine cs_ ?_ ?_ <;> intro hc) | refine cj_ ?_ | fail) <;> (try refine ev_ ?_)) | with_reducible exact ti_)

/-! patterns that are let be types -/
abbrev capE : AV := .eptr 1 [.ptr 0 0] 0 0
def okO (s : List Pr) (k : Nat) (b : Ty) : Prop := okS s ∧ s.length + k ≤ 100000 ∧ szY b ≤ 20000 ∧ dpY b ≤ 300
def onVM (a b : Ty) (s : List Pr) : Prop := VM Tryz.prog 94 (subE s) (subE (onP a b s).1) [.ptr 0 0, encY a, encY b] (.bool (onP a b s).2)
theorem qbnf {a b : Ty} {s : List Pr} (h : onVM a b s) : VM Tryz.prog 114 (subE s) (subE (onP a b s).1) [encY a, encY b, capE] (.bool (onP a b s).2) := by
 refine ql c0dp 1 (by simp) (by simp) ?_
 repeat' (first | refine vs_ ?_ | ((first | refine vr_ ?_ | refine qbw 0 h ?_ | (refine cs_ ?_ ?_ <;> intro hc) | refine cj_ ?_ | fail) <;> (try refine ev_ ?_)) | with_reducible exact ti_)
theorem qban {a b : Ty} {s : List Pr} (h : onVM a b s) : VM Tryz.prog 93 (subE s) (subE (onP a b s).1) [encY a, encY b, capE] (.bool (onP a b s).2) := by
 refine ql c0dq 1 (by simp) (by simp) ?_
 repeat' (first | refine vs_ ?_ | ((first | refine vr_ ?_ | refine qbw 0 h ?_ | (refine cs_ ?_ ?_ <;> intro hc) | refine cj_ ?_ | fail) <;> (try refine ev_ ?_)) | with_reducible exact ti_)
def onsI (l m : List Ty) (s : List Pr) (x : Nat × List Pr) : Prop := x.1 ≤ l.length ∧ onPs (l.drop x.1) (m.drop x.1) x.2 = onPs l m s ∧ okS x.2 ∧ x.2.length + szYs (l.drop x.1) ≤ 100000
theorem qj0 {f : FuncId} {l m : List Ty} {s : List Pr} (hf : ∀ a ∈ l, ∀ b s, okO s (szY a) b → VM Tryz.prog f (subE s) (subE (onP a b s).1) [encY a, encY b, capE] (.bool (onP a b s).2)) (ho : okS s) (hs : s.length + szYs l ≤ 100000) (hm : ∀ b ∈ m, szY b ≤ 20000 ∧ dpY b ≤ 300) :
 VM Tryz.prog 92 (subE s) (subE (qki l m s).1) [.sl 3 (qi l), .sl 3 (qi m), .fn f [] [capE]] (.bool (qki l m s).2) := by
 refine qgs (by kernel_rfl) fun hw => ?_
 have hl : l.length ≤ maxLen := by have := hw.1.1; rwa [qn] at this
 have hml : m.length ≤ maxLen := by have := hw.2.1.1; rwa [qn] at this
 refine ql c0dn 1 (by simp) (by simp) ?_
 by_cases hlm : l.length = m.length
 ·rw [qki, if_pos hlm]
  have hlmi : (l.length : Int) = m.length := by omega
  repeat' (first | refine vs_ ?_ | ((first | refine vr_ ?_ | fail) <;> (try simp only [hlmi, go_sem, ↓reduceIte])) | ((first | (refine cs_ ?_ ?_ <;> intro hc) | refine cj_ ?_ | simp (disch := omega) only [encs_getN, qb]) <;> (try refine ev_ ?_)) | with_reducible exact ti_)
  refine qo (S := Nat × List Pr) (onsI l m s) (fun x => (⟨[(0, .sl 3 (qi l)), (1, .sl 3 (qi m)), (2, .fn f [] [capE]), (14, .int .i64 l.length), (15, .int .i64 x.1)], []⟩, [subE x.2])) (fun x => l.length - x.1) ?_ fun x hx => ?_
  ·refine qh (0, s) [0] ⟨Nat.zero_le _, rfl, ho, hs⟩ rfl (by simp) ?_ ?_ ?_ <;> (try refine ev_ ?_) <;> (try with_reducible exact ti_) <;> (try simp (disch := omega) only [qb, and_true, true_and])
   rw [hlmi]
  ·obtain ⟨i, s1⟩ := x
   obtain ⟨hi, ha, ho1, hs1⟩ := hx
   dsimp only at hi ha ho1 hs1
   by_cases hlt : i < l.length
   ·have hmt : i < m.length := by omega
    have hb := hm _ (qx hmt)
    rw [qwa hlt hmt] at ha
    rw [qg5 hlt, szYs] at hs1
    have hon := hf _ (qx hlt) (m.getD i Y0) s1 ⟨ho1, by omega, hb.1, hb.2⟩
    have hok := q4y (l.getD i Y0) (m.getD i Y0) s1 ho1
    repeat' (first | refine vs_ ?_ | ((first | refine vr_ ?_ | fail) <;> (try simp (disch := first | omega | (simp only [List.length_set, List.length_append, List.length_cons, List.length_nil]; done) | (simp only [List.length_set, List.length_append, List.length_cons, List.length_nil]; omega)) only [qu, qb, go_sem, ↓reduceIte])) | ((first | (refine cs_ ?_ ?_ <;> intro hc) | refine cj_ ?_ | simp (disch := omega) only [encs_getN, qb] | refine q16 0 hon ?_) <;> (try refine ev_ ?_)) | with_reducible exact ti_)
    ·rw [hc, if_neg (by simp)] at ha; rw [← ha]; exact ⟨rfl, rfl⟩
    ·rw [hc, if_pos rfl] at ha
     refine qh (i + 1, (onP (l.getD i Y0) (m.getD i Y0) s1).1) [0] ⟨⟨by dsimp only; omega, ha, hok.1, by dsimp only; omega⟩, by dsimp only; omega⟩ rfl (by simp) ?_ ?_ ?_ <;> (try refine ev_ ?_) <;> (try with_reducible exact ti_) <;> (try simp (disch := omega) only [qb, and_true, true_and])
    ·exfalso; omega
   ·rw [q0m (by omega)] at ha
    repeat' (first | refine vs_ ?_ | ((first | refine vr_ ?_ | (refine cs_ ?_ ?_ <;> intro hc) | refine cj_ ?_ | simp (disch := omega) only [encs_getN, qb]) <;> (try refine ev_ ?_)) | with_reducible exact ti_)
    all_goals first | (exfalso; omega) | (rw [← ha]; exact ⟨rfl, rfl⟩)
 ·rw [qki, if_neg hlm]
  have hlmi : ¬ (l.length : Int) = m.length := by omega
  repeat' (first | refine vs_ ?_ | ((first | refine vr_ ?_ | fail) <;> (try simp only [hlmi, go_sem, ↓reduceIte])) | ((first | (refine cs_ ?_ ?_ <;> intro hc) | refine cj_ ?_ | simp (disch := omega) only [encs_getN, qb]) <;> (try refine ev_ ?_)) | with_reducible exact ti_)
theorem q03 : ∀ p t s, okO s (szY p) t → onVM p t s := by
 refine Ty.ind fun p ih t s ho => ?_
 obtain ⟨h1, h2, h3, h4⟩ := ho
 have hpp := qv4 p
 unfold onVM
 refine ql c0dr 1 (by simp) (by simp) ?_
 rw [qbpp]
 unfold k0dr
 refine qb5 (qef ?_)
 (refine ev_ ?_; (try with_reducible exact ti_))
 refine qo6 1 3 0 0 rfl rfl ?_
 simp only [go_sem]
 have hG := qpt (s := s) h1.1 (by omega) p.var
 have hS := qiq (s := s) h1.1 (by omega) p.var h3 h4
 by_cases hc : p.con = []
 ·simp only [if_pos hc]
  cases hlk : qq p.var s with
  | some u =>
    have hv : getV s p.var = .tup [encY u, .bool true] := by rw [getV, hlk]; rfl
    rw [hv] at hG
    repeat' (first | refine vs_ ?_ | ((first | refine vr_ ?_ | fail) <;> (try simp only [hc, go_sem, ↓reduceIte])) | ((first | (refine cs_ ?_ ?_ <;> intro hc) | refine cj_ ?_ | fail | refine qd6 0 hG rfl (by simp only [AV.bd, AV.bds, qbg, Bool.and_true]) ?_ | refine qa (qt1 _ _) fun _ => ?_) <;> (try refine ev_ ?_)) | with_reducible exact ti_)
  | none =>
    have hv : getV s p.var = .tup [encY Y0, .bool false] := by rw [getV, hlk]; rfl
    rw [hv] at hG
    repeat' (first | refine vs_ ?_ | ((first | refine vr_ ?_ | fail) <;> (try simp only [hc, go_sem, ↓reduceIte])) | ((first | (refine cs_ ?_ ?_ <;> intro hc) | refine cj_ ?_ | fail | refine qd6 0 hG rfl (by simp only [AV.bd, AV.bds, qbg, Bool.and_true]) ?_ | refine qd6 0 hS (by simp only [AV.bd, AV.bds, qbg, Bool.and_true]) rfl ?_) <;> (try refine ev_ ?_)) | with_reducible exact ti_)
 ·simp only [if_neg hc]
  by_cases hct : p.con = t.con
  ·have hb := qj0 (f := 114) (l := p.args) (m := t.args) (s := s) (fun a ha b s' h => qbnf (ih a ha b s' h)) h1 (by rw [qcw] at h2; omega) (fun b hb => by
    have q1 := qdc hb
    have q2 := qhm hb
    rw [qcw] at h3
    rw [qji] at h4
    omega)
   have e0 : (if p.args.length = t.args.length then onPs p.args t.args s else (s, false)) = qki p.args t.args s := rfl
   have hcT : ¬ t.con = [] := hct ▸ hc
   simp only [if_pos hct, e0]
   repeat' (first | refine vs_ ?_ | ((first | refine vr_ ?_ | fail) <;> (try simp only [hc, hct, hcT, go_sem, ↓reduceIte])) | ((first | (refine cs_ ?_ ?_ <;> intro hc) | refine cj_ ?_ | fail | refine qbw 0 hb ?_) <;> (try refine ev_ ?_)) | with_reducible exact ti_)
  ·simp only [if_neg hct]
   repeat' (first | refine vs_ ?_ | ((first | refine vr_ ?_ | fail) <;> (try simp only [hc, hct, go_sem, ↓reduceIte])) | ((first | (refine cs_ ?_ ?_ <;> intro hc) | refine cj_ ?_ | fail) <;> (try refine ev_ ?_)) | with_reducible exact ti_)
set_option maxRecDepth 4000

def smlY (l : List Ty) : Prop := ∀ x ∈ l, szY x ≤ 20000 ∧ dpY x ≤ 300
theorem qyo {l m : List Ty} (hl : smlY l) (hm : smlY m) (h20 : l.length ≤ 20) : VCalls Tryz.prog 63 [] [.sl 3 (qi l), .sl 3 (qi m)] (newQ [] (allP l m)) := by
 have L1 := qio hl
 have L2 := qio hm
 by_cases h1 : l.all qg = true
 ·by_cases h2 : m.all qg = true
  ·rw [h1] at L1
   rw [h2] at L2
   have hs := qxs h1 h20
   have hb := qj0 (f := 93) (l := l) (m := m) (s := []) (fun a ha b s' h => qban (q03 a b s' h)) qg8 (by rw [List.length_nil]; omega) hm
   rw [allP, if_pos ⟨h1, h2⟩]
   cases hq : (qki l m []).2 with
   | true =>
     rw [hq] at hb
     rw [if_pos rfl]
     refine ql c0dj 1 (by simp) (by simp) ?_
     unfold k0dj
     refine qb5 (qef ?_)
     (refine ev_ ?_; (try with_reducible exact ti_))
     refine qdu (S := Unit) (fun _ => True) (fun _ => (⟨[(0, .sl 3 (qi l)), (1, .sl 3 (qi m))], []⟩, [])) ?_ fun _ _ => ?_
     ·repeat' (first | refine vs_ ?_ | ((first | refine vr_ ?_ | refine qa L1 fun _ => ?_ | refine qa L2 fun _ => ?_ | (refine cs_ ?_ ?_ <;> intro hc) | refine cj_ ?_ | fail) <;> (try refine ev_ ?_)) | with_reducible exact ti_)
      refine qh () [] trivial rfl (by simp) ?_ ?_ ?_ <;> (try refine ev_ ?_) <;> (try with_reducible exact ti_) <;> (try simp (disch := omega) only [qb, and_true, true_and])
     refine qdu (S := Unit) (fun _ => True) (fun _ => (⟨[(0, .sl 3 (qi l)), (1, .sl 3 (qi m)), (6, .ptr 1 0)], []⟩, [subE [], .blk [.ptr 0 0]])) ?_ fun _ _ => ?_
     ·repeat' (first | refine vs_ ?_ | ((first | refine vr_ ?_ | refine qln qlz rfl rfl ?_ | (refine cs_ ?_ ?_ <;> intro hc) | refine cj_ ?_ | fail) <;> (try refine ev_ ?_)) | with_reducible exact ti_)
      refine qh () [0, 1] trivial rfl (by simp) ?_ ?_ ?_ <;> (try refine ev_ ?_) <;> (try with_reducible exact ti_) <;> (try simp (disch := omega) only [qb, and_true, true_and])
     refine qo6 1 6 0 0 rfl rfl ?_
     simp only [go_sem]
     repeat' (first | refine vs_ ?_ | ((first | refine vr_ ?_ | refine qbw 0 hb ?_ | (refine cs_ ?_ ?_ <;> intro hc) | refine cj_ ?_ | fail) <;> (try refine ev_ ?_)) | with_reducible exact ti_)
     rw [newQ, if_pos rfl]; exact ⟨rfl, rfl⟩
   | false =>
     rw [hq] at hb
     rw [if_neg (by simp)]
     refine ql c0dj 0 (by simp) (by simp) ?_
     unfold k0dj
     refine qb5 (qef ?_)
     (refine ev_ ?_; (try with_reducible exact ti_))
     refine qdu (S := Unit) (fun _ => True) (fun _ => (⟨[(0, .sl 3 (qi l)), (1, .sl 3 (qi m))], []⟩, [])) ?_ fun _ _ => ?_
     ·repeat' (first | refine vs_ ?_ | ((first | refine vr_ ?_ | refine qa L1 fun _ => ?_ | refine qa L2 fun _ => ?_ | (refine cs_ ?_ ?_ <;> intro hc) | refine cj_ ?_ | fail) <;> (try refine ev_ ?_)) | with_reducible exact ti_)
      refine qh () [] trivial rfl (by simp) ?_ ?_ ?_ <;> (try refine ev_ ?_) <;> (try with_reducible exact ti_) <;> (try simp (disch := omega) only [qb, and_true, true_and])
     refine qdu (S := Unit) (fun _ => True) (fun _ => (⟨[(0, .sl 3 (qi l)), (1, .sl 3 (qi m)), (6, .ptr 1 0)], []⟩, [subE [], .blk [.ptr 0 0]])) ?_ fun _ _ => ?_
     ·repeat' (first | refine vs_ ?_ | ((first | refine vr_ ?_ | refine qln qlz rfl rfl ?_ | (refine cs_ ?_ ?_ <;> intro hc) | refine cj_ ?_ | fail) <;> (try refine ev_ ?_)) | with_reducible exact ti_)
      refine qh () [0, 1] trivial rfl (by simp) ?_ ?_ ?_ <;> (try refine ev_ ?_) <;> (try with_reducible exact ti_) <;> (try simp (disch := omega) only [qb, and_true, true_and])
     refine qo6 1 6 0 0 rfl rfl ?_
     simp only [go_sem]
     repeat' (first | refine vs_ ?_ | ((first | refine vr_ ?_ | refine qbw 0 hb ?_ | (refine cs_ ?_ ?_ <;> intro hc) | refine cj_ ?_ | fail) <;> (try refine ev_ ?_)) | with_reducible exact ti_)
     rw [newQ, if_neg (by simp)]; exact ⟨rfl, rfl⟩
  ·have h2 : m.all qg = false := by simpa using h2
   rw [h1] at L1
   rw [h2] at L2
   rw [allP, if_neg (by simp [h2])]
   refine ql c0dj 0 (by simp) (by simp) ?_
   repeat' (first | refine vs_ ?_ | ((first | refine vr_ ?_ | refine qa L1 fun _ => ?_ | refine qa L2 fun _ => ?_ | (refine cs_ ?_ ?_ <;> intro hc) | refine cj_ ?_ | fail) <;> (try refine ev_ ?_)) | with_reducible exact ti_)
   rw [newQ, if_neg (by simp)]; exact ⟨rfl, rfl⟩
 ·have h1 : l.all qg = false := by simpa using h1
  rw [h1] at L1
  rw [allP, if_neg (by simp [h1])]
  refine ql c0dj 0 (by simp) (by simp) ?_
  repeat' (first | refine vs_ ?_ | ((first | refine vr_ ?_ | refine qa L1 fun _ => ?_ | (refine cs_ ?_ ?_ <;> intro hc) | refine cj_ ?_ | fail) <;> (try refine ev_ ?_)) | with_reducible exact ti_)
  rw [newQ, if_neg (by simp)]; exact ⟨rfl, rfl⟩
section
variable {L : List Ent} {Q : List Ent → VO → Prop} {s : List Pr}
theorem qsp {f : FuncId} {args : List AV} {q : List Pr × Int} (h : VCalls Tryz.prog f [] args (newQ [] q)) (ha : AV.bds 0 args = true) (hq : if q.2 = 0 then Q (L ++ [subE q.1]) (.val (.tup [.ptr L.length 0, .int .i64 0])) else Q L (.val (.tup [.nilp, .int .i64 q.2]))) : VApp Tryz.prog L (.fn f [] []) args Q := by
 refine qdd ?_
 rw [List.nil_append, List.append_nil]
 refine qcc [] h (by simp) trivial ha (qr (m := 0) (fun i hi => by omega) _ ha).symm fun H1 o ho => ?_
 rw [newQ] at ho
 split at ho
 ·rename_i he
  rw [if_pos he] at hq
  obtain ⟨rfl, rfl⟩ := ho
  show Q _ (.val (.tup [.ptr (L.length + (0 - 0)) 0, .int .i64 0]))
  exact hq
 ·rename_i he
  rw [if_neg he] at hq
  obtain ⟨rfl, rfl⟩ := ho
  have e1 : qj6 L [] [] = L := by
   show L ++ [] = _
   rw [List.append_nil]
  rw [e1]
  exact hq
theorem qw4 {f : FuncId} {args : List AV} {q : List Pr × Int} (h : VCalls Tryz.prog f [] args (newQ [] q)) (ha : AV.bds 0 args = true) (he : q = (s, 0)) (hq : Q (L ++ [subE s]) (.val (.tup [.ptr L.length 0, .int .i64 0]))) : VApp Tryz.prog L (.fn f [] []) args Q :=
 qsp h ha (by subst he; rw [if_pos rfl]; exact hq)
theorem qvq {f : FuncId} {args : List AV} {q : List Pr × Int} {e : Int} (h : VCalls Tryz.prog f [] args (newQ [] q)) (ha : AV.bds 0 args = true) (he : q = (s, e)) (hne : e ≠ 0) (hq : Q L (.val (.tup [.nilp, .int .i64 e]))) : VApp Tryz.prog L (.fn f [] []) args Q :=
 qsp h ha (by subst he; rw [if_neg hne]; exact hq)
end
theorem qx5 {t : Ty} (h1 : szY t ≤ 20000) (h2 : dpY t ≤ 300) : smlY [t] := fun x hx => by rw [List.mem_singleton] at hx; subst hx; exact ⟨h1, h2⟩
theorem qo7 {p t : Ty} (h1 : szY p ≤ 20000) (h2 : dpY p ≤ 300) (h3 : szY t ≤ 20000) (h4 : dpY t ≤ 300) : VCalls Tryz.prog 40 [] [encY p, encY t] (newQ [] (matP p t)) := by
 have hA := qyo (qx5 h1 h2) (qx5 h3 h4) (by simp)
 have hb : AV.bds 0 [.sl 3 (qi [p]), .sl 3 (qi [t])] = true := by simp only [AV.bds, AV.bd, qbs, Bool.and_true]
 have hm : matP p t = allP [p] [t] := rfl
 rw [hm]
 generalize allP [p] [t] = q at hA ⊢
 obtain ⟨q1, e⟩ := q
 by_cases he : e = 0
 ·subst he
  refine ql c0dk 1 (by simp) (by simp) ?_
  unfold k0dk
  refine qb5 (qef ?_)
  (refine ev_ ?_; (try with_reducible exact ti_))
  refine qdu (S := Unit) (fun _ => True) (fun _ => (⟨[(4, .ptr 0 0), (5, .int .i64 0)], []⟩, [subE q1])) ?_ fun _ _ => ?_
  ·repeat' (first | refine vs_ ?_ | ((first | refine vr_ ?_ | refine qw4 hA hb rfl ?_ | (refine cs_ ?_ ?_ <;> intro hc) | refine cj_ ?_ | fail) <;> (try refine ev_ ?_)) | with_reducible exact ti_)
   refine qh () [2] trivial rfl (by simp) ?_ ?_ ?_ <;> (try refine ev_ ?_) <;> (try with_reducible exact ti_) <;> (try simp (disch := omega) only [qb, and_true, true_and])
  ·repeat' (first | refine vs_ ?_ | ((first | refine vr_ ?_ | (refine cs_ ?_ ?_ <;> intro hc) | refine cj_ ?_ | fail) <;> (try refine ev_ ?_)) | with_reducible exact ti_)
   rw [newQ, if_pos rfl]; exact ⟨rfl, rfl⟩
 ·refine ql c0dk 0 (by simp) (by simp) ?_
  repeat' (first | refine vs_ ?_ | ((first | refine vr_ ?_ | refine qvq hA hb rfl he ?_ | (refine cs_ ?_ ?_ <;> intro hc) | refine cj_ ?_ | fail) <;> (try refine ev_ ?_)) | with_reducible exact ti_)
  rw [newQ, if_neg he]; exact ⟨rfl, rfl⟩
theorem qo9 {p t : Ty} (h1 : szY p ≤ 20000) (h2 : dpY p ≤ 300) (h3 : szY t ≤ 20000) (h4 : dpY t ≤ 300) : qj Tryz.prog 21 [encY p, encY t] (.bool (abvP p t)) := by
 have hM := qo7 h1 h2 h3 h4
 have hb : AV.bds 0 [encY p, encY t] = true := by simp only [AV.bds, AV.bd, qbg, Bool.and_true]
 refine qd c0dl (by simp) (by simp only [go_sem]) rfl fun hw => ?_
 have hv : abvP p t = decide ((matP p t).2 = 0) := rfl
 rw [hv]
 generalize matP p t = q at hM ⊢
 obtain ⟨q1, e⟩ := q
 by_cases he : e = 0
 ·subst he
  repeat' (first | refine vs_ ?_ | ((first | refine vr_ ?_ | refine qw4 hM hb rfl ?_ | (refine cs_ ?_ ?_ <;> intro hc) | refine cj_ ?_ | fail) <;> (try refine ev_ ?_)) | with_reducible exact ti_)
 ·have hd : decide (e = 0) = false := decide_eq_false he
  repeat' (first | refine vs_ ?_ | ((first | refine vr_ ?_ | fail) <;> (try simp only [hd, go_sem, ↓reduceIte])) | ((first | (refine cs_ ?_ ?_ <;> intro hc) | refine cj_ ?_ | fail | refine qvq hM hb rfl he ?_) <;> (try refine ev_ ?_)) | with_reducible exact ti_)
end Go.Proofs.YtbbjelfnocmaoaaGreat
