/- Texts of this proof, joined. -/
import Derived.Test.YtbbjelfnocmaoaaGreatAam
import Derived.Test.YtbbjelfnocmaoaaGreatAau
import Derived.Test.YtbbjelfnocmaoaaGreatAai

/- substitutions: what they do, program and reference alike -/
namespace Go.Proofs.YtbbjelfnocmaoaaGreat
open Go Go.RowKit Go.V
set_option linter.unusedVariables false
set_option linter.unusedSimpArgs false

theorem qbd (t : Ty) : qv t = true ↔ szY t ≤ 4096 ∧ dpY t ≤ 100 ∧ qbp t = true := by
 rw [qv, Bool.and_eq_true, Bool.and_eq_true, decide_eq_true_eq, decide_eq_true_eq]
theorem qug {t : Ty} (h : qbp t = true) (hc : t.con = []) : t.args = [] := by
 rw [qf4, Bool.and_eq_true] at h
 have h2 := h.2
 rw [mayY, mayW, if_pos hc, decide_eq_true_eq] at h2
 exact List.length_eq_zero_iff.1 (by omega)
mutual
theorem qcz : ∀ t, qbp t = true → bare t
 | .mk c v l, h => by
   rw [bare]
   refine ⟨fun hc => qug h hc, qhd l ?_⟩
   rw [qbp, Bool.and_eq_true] at h
   exact h.1
theorem qhd : ∀ l, qt l = true → qjo l
 | [], _ => by rw [qjo]; trivial
 | x :: r, h => by
   rw [qt, Bool.and_eq_true] at h
   rw [qjo]
   exact ⟨qcz x h.1, qhd r h.2⟩
end
def okS (s : List Pr) : Prop := risR s ∧ ∀ p ∈ s, qv p.ty = true
theorem qk7 : okS [] := ⟨trivial, fun p hp => by simp at hp⟩
theorem qox {s : List Pr} (h : okS s) : okR s := fun p hp => by
 have := (qbd _).1 (h.2 p hp)
 exact ⟨this.1, this.2.1⟩
theorem qz1 {s : List Pr} (h : okS s) {v : Int} {u : Ty} (hu : qbb v s = some u) : qv u = true := by
 obtain ⟨p, h1, _, rfl⟩ := qjc hu
 exact h.2 p h1
mutual
theorem qm4 {s : List Pr} (h : okS s) : ∀ t, qbp t = true → qbp (putY s t) = true
 | .mk c v l, ht => by
   rw [putY]
   split
   ·cases hl : qbb v s with
    | some u => exact ((qbd u).1 (qz1 h hl)).2.2
    | none => exact ht
   ·rw [qbp, Bool.and_eq_true] at ht ⊢
    exact ⟨qj5 h l ht.1, by rw [qfv]; exact ht.2⟩
theorem qj5 {s : List Pr} (h : okS s) : ∀ l, qt l = true → qt (qbq s l) = true
 | [], _ => by rw [qbq, qt]
 | x :: r, hl => by
   rw [qt, Bool.and_eq_true] at hl
   rw [qbq, qt, Bool.and_eq_true]
   exact ⟨qm4 h x hl.1, qj5 h r hl.2⟩
end
def setR (l : List Pr) (v : Int) (t : Ty) : List Pr × Int := if qv t = true then (match qbb v l with | some _ => (l, 6) | none => (insR v t l, 0)) else (l, 1)
theorem qow {s : List Pr} (h : okS s) (v : Int) (t : Ty) : okS (setR s v t).1 := by
 rw [setR]
 split
 ·rename_i ht
  cases hl : qbb v s with
  | some u => exact h
  | none =>
    refine ⟨qqc h.1 hl, fun p hp => ?_⟩
    rcases insR_mem.1 hp with rfl | hp
    ·exact ht
    ·exact h.2 p hp
 ·exact h
theorem qqn (s : List Pr) (v : Int) (t : Ty) : (setR s v t).1.length ≤ s.length + 1 := by
 rw [setR]
 split
 ·cases qbb v s with
  | some u => simp
  | none => simp only [qqz]; omega
 ·simp
def addR (s : List Pr) : List Pr → List Pr
 | [] => s
 | p :: r => addR (setR s p.v p.ty).1 r
theorem qo7 : ∀ (l : List Pr) {s : List Pr}, okS s → okS (addR s l)
 | [], s, h => h
 | p :: r, s, h => qo7 r (qow h p.v p.ty)
theorem qp9 : ∀ (l s : List Pr), (addR s l).length ≤ s.length + l.length
 | [], s => by simp [addR]
 | p :: r, s => by
   have h1 := qp9 r (setR s p.v p.ty).1
   have h2 := qqn s p.v p.ty
   rw [addR, List.length_cons]; omega
def newR (l : List Pr) : List Pr := addR [] l
theorem qof (l : List Pr) : okS (newR l) := qo7 l qk7
theorem qzp (l : List Pr) : (newR l).length ≤ l.length := by have := qp9 l []; rw [newR]; simpa using this
def appR (s : List Pr) (t : Ty) : Ty × Int := if qv t = true then (if 4096 < sizR s t then (Y0, 2) else if qv (putY s t) = true then (putY s t, 0) else (Y0, 2)) else (Y0, 1)
theorem qtu {s : List Pr} (h : okS s) (t : Ty) : appR s t = if qv t = true then (if qv (putY s t) = true then (putY s t, 0) else (Y0, 2)) else (Y0, 1) := by
 rw [appR]
 split
 ·rename_i ht
  have hs := qe9 ht
  have hz := qk0 s t (qcz t hs)
  split
  ·rename_i hb
   rw [if_neg]
   intro hl
   have := ((qbd _).1 hl).1
   omega
  ·rfl
 ·rfl
def appP (s : List Pr) (t : Ty) : Ty × Int := if qv t = true then (if (bput s t 4096 1).1 < 0 then (Y0, 2) else ((bput s t 4096 1).2, 0)) else (Y0, 1)
theorem q6g {s : List Pr} (h : okS s) (t : Ty) : appP s t = appR s t := by
 rw [appP, qtu h]
 split
 ·rename_i ht
  obtain ⟨h1, h2, h3⟩ := (qbd t).1 ht
  have hz := qk0 s t (qcz t h3)
  have hp := qm4 h t h3
  have key := qq4 s t 4096 1 (qcz t h3) (by omega) (by omega)
  by_cases hk : (sizR s t : Int) ≤ 4096 ∧ 1 + dpY (putY s t) ≤ 101
  ·have hk' : (sizR s t : Int) ≤ 4096 ∧ (1 : Int) + dpY (putY s t) ≤ 101 := by omega
   rw [key.1 hk', if_neg (by simp only; omega), if_pos ((qbd _).2 ⟨by omega, by omega, hp⟩)]
  ·rw [if_pos (key.2 (by omega)), if_neg]
   intro hl
   have := (qbd _).1 hl
   omega
 ·rfl
theorem qst {s : List Pr} (h : okS s) {t : Ty} (he : (appR s t).2 = 0) : qv t = true ∧ qv (putY s t) = true ∧ (appR s t).1 = putY s t := by
 rw [qtu h] at he ⊢
 split at he
 ·rename_i h1
  split at he
  ·rename_i h2
   rw [if_pos h1, if_pos h2]
   exact ⟨h1, h2, rfl⟩
  ·exact absurd he (by simp)
 ·exact absurd he (by simp)
def qm0 (t : List Pr) : List Pr → List Pr → List Pr × Int
 | acc, [] => (acc, 0)
 | acc, p :: r => if (appR t p.ty).2 = 0 then qm0 t (acc ++ [⟨p.v, (appR t p.ty).1⟩]) r else ([], (appR t p.ty).2)
def behR (s t : List Pr) : List Pr × Int := if (qm0 t [] s).2 = 0 then (addR (qm0 t [] s).1 t, 0) else ([], (qm0 t [] s).2)
theorem qmu {t : List Pr} (ht : okS t) : ∀ (s acc : List Pr), (qm0 t acc s).2 = 0 → (qm0 t acc s).1 = acc ++ s.map (fun p => ⟨p.v, putY t p.ty⟩) ∧ ∀ p ∈ s, qv (putY t p.ty) = true
 | [], acc, _ => ⟨by simp [qm0], fun p hp => by simp at hp⟩
 | p :: r, acc, he => by
   rw [qm0] at he ⊢
   split at he
   ·rename_i h0
    obtain ⟨h1, h2, h3⟩ := qst ht h0
    obtain ⟨q1, q2⟩ := qmu ht r _ he
    rw [if_pos h0]
    refine ⟨by rw [q1, h3]; simp, fun q hq => ?_⟩
    rcases List.mem_cons.1 hq with rfl | hq
    ·exact h2
    ·exact q2 q hq
   ·rename_i h0
    exact absurd he h0
theorem qxw {t : List Pr} : ∀ {s : List Pr}, risR s → risR (s.map fun p => (⟨p.v, putY t p.ty⟩ : Pr))
 | [], _ => trivial
 | p :: r, h => ⟨fun q hq => by
     obtain ⟨x, hx, rfl⟩ := List.mem_map.1 hq
     exact h.1 x hx, qxw h.2⟩
theorem qbc4 {s t : List Pr} (hs : okS s) (ht : okS t) : okS (behR s t).1 := by
 rw [behR]
 split
 ·rename_i he
  obtain ⟨q1, q2⟩ := qmu ht s [] he
  refine qo7 t ?_
  rw [q1, List.nil_append]
  refine ⟨qxw hs.1, fun p hp => ?_⟩
  obtain ⟨x, hx, rfl⟩ := List.mem_map.1 hp
  exact q2 x hx
 ·exact qk7
set_option maxRecDepth 4000

def qss (a b : Pd) : Bool := decide (a.cls = b.cls) && qgw a.ty b.ty
theorem qvt (a b : Pd) : qss a b = true ↔ a = b := by
 rw [qss, Bool.and_eq_true, decide_eq_true_eq, qq8]
 cases a; cases b; simp
theorem qo8 (p : Pd) : AV.agg [.str p.ty.con, .int .i64 p.ty.var, .sl 3 (ql p.ty.args)] = encY p.ty := qbm _
theorem qkj (a b : Pd) : qg Tryz.prog 37 [encP a, encP b] (.bool (qss a b)) := by
 refine qc c0co (by simp) (by simp only [go_sem]) rfl fun hw => ?_
 repeat' (first | refine vs_ ?_ | ((first | refine vr_ ?_ | refine qa (qsp _ _) fun _ => ?_ | (refine cs_ ?_ ?_ <;> intro hc) | refine cj_ ?_ | fail) <;> (try refine ev_ ?_)) | with_reducible exact ti_)
 all_goals simp [qss, *]
set_option maxRecDepth 4000

def qfq : List Pd → List Pd → Bool
 | [], [] => true
 | x :: r, y :: r' => qss x y && qfq r r'
 | _, _ => false
theorem qiz : ∀ l m, qfq l m = true ↔ l = m
 | [], [] => by simp [qfq]
 | [], y :: r => by rw [qfq] <;> simp
 | x :: r, [] => by rw [qfq] <;> simp
 | x :: r, y :: r' => by rw [qfq, Bool.and_eq_true, qvt, qiz r r']; simp
theorem qww {l m : List Pd} (h : l.length ≠ m.length) : qfq l m = false := by
 cases hh : qfq l m with
 | false => rfl
 | true => rw [(qiz l m).1 hh] at h; exact absurd rfl h
theorem qkg {l m : List Pd} {i : Nat} (h : i < l.length) (h' : i < m.length) : qfq (l.drop i) (m.drop i) = (qss (l.getD i P0) (m.getD i P0) && qfq (l.drop (i + 1)) (m.drop (i + 1))) := by
 rw [qbcw h, qbcw h', qfq]
theorem qr7 (l m : List Pd) : qg Tryz.prog 19 [.sl 4 (qu l), .sl 4 (qu m)] (.bool (qfq l m)) := by
 refine qc c0cl (by simp) (by simp only [go_sem]) rfl fun hw => ?_
 have hl := (qdt hw.1).1
 repeat' (first | refine vs_ ?_ | ((first | refine vr_ ?_ | (refine cs_ ?_ ?_ <;> intro hc) | refine cj_ ?_ | simp (disch := omega) only [encs_getN, qb]) <;> (try refine ev_ ?_)) | with_reducible exact ti_)
 ·rw [qww (by omega)]
 have hlm : l.length = m.length := by omega
 refine qm (S := Nat) (fun i => i ≤ l.length ∧ qfq (l.drop i) (m.drop i) = qfq l m) (fun i => (⟨[(0, .sl 4 (qu l)), (1, .sl 4 (qu m)), (5, .int .i64 i)], []⟩, [])) (fun i => l.length - i) ?_ fun i hi => ?_
 ·refine qi 0 [] ⟨Nat.zero_le _, rfl⟩ rfl (by simp) ?_ ?_ ?_ <;> (try refine ev_ ?_) <;> (try with_reducible exact ti_) <;> (try simp (disch := omega) only [qb, and_true, true_and])
 ·obtain ⟨hi, ha⟩ := hi
  repeat' (first | refine vs_ ?_ | ((first | refine vr_ ?_ | fail) <;> (try simp (disch := first | omega | (simp only [List.length_set, List.length_append, List.length_cons, List.length_nil]; done) | (simp only [List.length_set, List.length_append, List.length_cons, List.length_nil]; omega)) only [qbu, qb, go_sem, ↓reduceIte])) | ((first | (refine cs_ ?_ ?_ <;> intro hc) | refine cj_ ?_ | simp (disch := omega) only [encs_getN, qb] | refine qa (qkj _ _) fun _ => ?_ | refine qe (qkj _ _) ?_) <;> (try refine ev_ ?_)) | with_reducible exact ti_)
  ·rename_i hc; rw [← ha, qkg (by omega) (by omega), hc]; rfl
  ·rename_i hc
   refine qi (i + 1) [] ⟨⟨by omega, ?_⟩, by omega⟩ rfl (by simp) ?_ ?_ ?_ <;> (try refine ev_ ?_) <;> (try with_reducible exact ti_) <;> (try simp (disch := omega) only [qb, and_true, true_and])
   rw [← ha, qkg (l := l) (m := m) (i := i) (by omega) (by omega), hc, Bool.true_and]
  ·rw [← ha, List.drop_of_length_le (by omega), List.drop_of_length_le (by omega)]; rfl
def qit (p : Pd) : Bool := conW p.cls && qv p.ty
theorem qn8 {p : Pd} (h1 : szY p.ty ≤ 20000) (h2 : dpY p.ty ≤ 300) : qg Tryz.prog 49 [encP p] (.bool (qit p)) := by
 refine qc c0cm (by simp) (by simp only [go_sem]) rfl fun hw => ?_
 repeat' (first | refine vs_ ?_ | ((first | refine vr_ ?_ | refine qa (qf8 _) fun _ => ?_ | refine qa (qcm h1 h2) fun _ => ?_ | (refine cs_ ?_ ?_ <;> intro hc) | refine cj_ ?_ | fail) <;> (try refine ev_ ?_)) | with_reducible exact ti_)
 all_goals simp [qit, *]
def fewP (l : List Pd) : Bool := decide (l.length ≤ 30) && qjw (l.map Pd.ty)
theorem qhn {l : List Ty} (h : l ≠ []) : ql l ≠ [] := by cases l with | nil => exact absurd rfl h | cons _ _ => simp [ql]
theorem qcd : ql [] = [] := by rw [ql]
theorem qsb (t : Ty) : [encY t] = ql [t] := by rw [ql, ql]
theorem qky (l : List Pd) (i : Nat) (h : i < l.length) : (l.map Pd.ty).take (i + 1) = (l.map Pd.ty).take i ++ [(l.getD i P0).ty] := by
 rw [List.take_add_one, List.getElem?_map, List.getElem?_eq_getElem h, List.getD_eq_getElem?_getD, List.getElem?_eq_getElem h]; rfl
theorem capY {k : Nat} (h : k ≤ 1000000000) : qbr k 48 := by unfold qbr; omega
def qw7 (l : List Pd) (i : Nat) : AF × List Ent := (⟨[(0, .sl 4 (qu l)), (3, accV 0 (ql ((l.map Pd.ty).take i))), (4, .int .i64 i)], []⟩, accE 3 (ql ((l.map Pd.ty).take i)))
theorem qbke (l : List Pd) : qg Tryz.prog 16 [.sl 4 (qu l)] (.int .i64 (if fewP l = true then 1 else 0)) := by
 refine qc c0cn (by simp) (by simp only [go_sem]) rfl fun hw => ?_
 have hl := (qdt hw.1).1
 repeat' (first | refine vs_ ?_ | ((first | refine vr_ ?_ | (refine cs_ ?_ ?_ <;> intro hc) | refine cj_ ?_ | simp (disch := omega) only [encs_getN, qb]) <;> (try refine ev_ ?_)) | with_reducible exact ti_)
 ·rw [if_neg (by simp [fewP]; omega)]
 have h30 : l.length ≤ 30 := by omega
 refine qm (S := Nat) (fun i => i ≤ l.length) (qw7 l) (fun i => l.length - i) ?_ fun i hi => ?_
 ·refine qi 0 [] (Nat.zero_le _) rfl (by simp) ?_ ?_ ?_ <;> simp only [qw7, List.take_zero, qcd, qx, qy] <;> (try refine ev_ ?_) <;> (try with_reducible exact ti_) <;> (try simp (disch := omega) only [qb, and_true, true_and])
 ·have hfin : fewP l = qjw (l.map Pd.ty) := by rw [fewP, decide_eq_true h30, Bool.true_and]
  have hlm : ((l.map Pd.ty).take i).length = i := by rw [List.length_take, List.length_map]; omega
  have hcap : qbr (i + 1) 48 = True := eq_true (capY (by omega))
  unfold qw7
  by_cases hlt : i < l.length
  ·have hs := qky l i hlt
   by_cases h0 : i = 0
   ·subst h0
    simp only [List.take_zero, qcd, qx, qy]
    repeat' (first | refine vs_ ?_ | ((first | refine vr_ ?_ | fail) <;> (try simp (disch := first | omega | (simp only [List.length_set, List.length_append, List.length_cons, List.length_nil]; done) | (simp only [List.length_set, List.length_append, List.length_cons, List.length_nil]; omega)) only [qbu, qb, qo8, go_sem, ↓reduceIte])) | ((first | simp (disch := omega) only [(show qbr 1 48 = True from eq_true (capY (by omega)))] | (refine cs_ ?_ ?_ <;> intro hc) | refine cj_ ?_ | simp (disch := omega) only [encs_getN, qb]) <;> (try refine ev_ ?_)) | with_reducible exact ti_)
    ·refine qi 1 [0] ⟨by omega, by omega⟩ rfl (by simp) ?_ ?_ ?_ <;> simp only [qw7, hs, List.take_zero, List.nil_append, ← qsb, qd3, qdx] <;> (try refine ev_ ?_) <;> (try with_reducible exact ti_) <;> (try simp (disch := omega) only [qb, and_true, true_and])
     all_goals (rw [qig])
    ·omega
   ·have hne : (l.map Pd.ty).take i ≠ [] := fun h => h0 (by rw [← hlm, h]; rfl)
    simp only [qb8 (qhn hne), qb9 (qhn hne), qr, hlm]
    repeat' (first | refine vs_ ?_ | ((first | refine vr_ ?_ | fail) <;> (try simp (disch := first | omega | (simp only [List.length_set, List.length_append, List.length_cons, List.length_nil]; done) | (simp only [List.length_set, List.length_append, List.length_cons, List.length_nil]; omega)) only [qbu, qb, qo8, qr, hlm, go_sem, ↓reduceIte])) | ((first | simp (disch := omega) only [hcap] | (refine cs_ ?_ ?_ <;> intro hc) | refine cj_ ?_ | simp (disch := omega) only [encs_getN, qb]) <;> (try refine ev_ ?_)) | with_reducible exact ti_)
    ·have hl2 : ql ((l.map Pd.ty).take (i + 1)) = ql ((l.map Pd.ty).take i) ++ [encY (l.getD i P0).ty] := by rw [hs, qdp]
     refine qi (i + 1) [1] ⟨by omega, by omega⟩ rfl (by simp) ?_ ?_ ?_ <;> simp only [qw7, hl2, qc1, qc7, qr, hlm] <;> (try refine ev_ ?_) <;> (try with_reducible exact ti_) <;> (try simp (disch := omega) only [qb, and_true, true_and])
     all_goals (simp only [qdp]; exact ⟨qby _ _, by rw [qc6]⟩)
    ·omega
  ·have hend : (l.map Pd.ty).take i = l.map Pd.ty := List.take_of_length_le (by rw [List.length_map]; omega)
   have hf := qbp2 (l.map Pd.ty)
   rw [hend, hfin]
   by_cases h0 : l.map Pd.ty = []
   ·rw [h0] at hf ⊢
    simp only [qcd, qx, qy]
    repeat' (first | refine vs_ ?_ | ((first | refine vr_ ?_ | fail) <;> (try simp only [qbe, go_sem, ↓reduceIte])) | ((first | (refine cs_ ?_ ?_ <;> intro hc) | refine cj_ ?_ | simp (disch := omega) only [encs_getN, qb] | refine qa hf fun _ => ?_) <;> (try refine ev_ ?_)) | with_reducible exact ti_)
    all_goals omega
   ·simp only [qb8 (qhn h0), qb9 (qhn h0), qr]
    repeat' (first | refine vs_ ?_ | ((first | refine vr_ ?_ | fail) <;> (try simp only [qr, go_sem, ↓reduceIte])) | ((first | (refine cs_ ?_ ?_ <;> intro hc) | refine cj_ ?_ | simp (disch := omega) only [encs_getN, qb] | refine qa hf fun _ => ?_) <;> (try refine ev_ ?_)) | with_reducible exact ti_)
    all_goals omega

/-! the reference's -/

end Go.Proofs.YtbbjelfnocmaoaaGreat
