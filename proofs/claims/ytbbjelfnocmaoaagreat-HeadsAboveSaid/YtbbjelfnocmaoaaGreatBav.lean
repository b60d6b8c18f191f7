/- Texts of this proof, joined. -/
import Derived.Test.YtbbjelfnocmaoaaGreatBam
import Derived.Test.YtbbjelfnocmaoaaGreatBau
import Derived.Test.YtbbjelfnocmaoaaGreatBai

/- substitutions: what they do, program and reference alike -/
namespace Go.Proofs.YtbbjelfnocmaoaaGreat
open Go Go.RowKit Go.V
set_option linter.unusedVariables false
set_option linter.unusedSimpArgs false

theorem qs (t : Ty) : qg t = true ↔ szY t ≤ 4096 ∧ dpY t ≤ 100 ∧ qbe t = true := by
 rw [qg, Bool.and_eq_true, Bool.and_eq_true, decide_eq_true_eq, decide_eq_true_eq]
theorem qwd {t : Ty} (h : qbe t = true) (hc : t.con = []) : t.args = [] := by
 rw [qc8, Bool.and_eq_true] at h
 have h2 := h.2
 rw [mayY, mayW, if_pos hc, decide_eq_true_eq] at h2
 exact List.length_eq_zero_iff.1 (by omega)
mutual
theorem qcn : ∀ t, qbe t = true → bare t
 | .mk c v l, h => by
   rw [bare]
   refine ⟨fun hc => qwd h hc, qh0 l ?_⟩
   rw [qbe, Bool.and_eq_true] at h
   exact h.1
theorem qh0 : ∀ l, qt l = true → qf8 l
 | [], _ => by rw [qf8]; trivial
 | x :: r, h => by
   rw [qt, Bool.and_eq_true] at h
   rw [qf8]
   exact ⟨qcn x h.1, qh0 r h.2⟩
end
def okS (s : List Pr) : Prop := risR s ∧ ∀ p ∈ s, qg p.ty = true
theorem qg8 : okS [] := ⟨trivial, fun p hp => by simp at hp⟩
theorem qpa {s : List Pr} (h : okS s) : okR s := fun p hp => by
 have := (qs _).1 (h.2 p hp)
 exact ⟨this.1, this.2.1⟩
theorem q0a {s : List Pr} (h : okS s) {v : Int} {u : Ty} (hu : qq v s = some u) : qg u = true := by
 obtain ⟨p, h1, _, rfl⟩ := qjs hu
 exact h.2 p h1
mutual
theorem qm4 {s : List Pr} (h : okS s) : ∀ t, qbe t = true → qbe (putY s t) = true
 | .mk c v l, ht => by
   rw [putY]
   split
   ·cases hl : qq v s with
    | some u => exact ((qs u).1 (q0a h hl)).2.2
    | none => exact ht
   ·rw [qbe, Bool.and_eq_true] at ht ⊢
    exact ⟨qks h l ht.1, by rw [qgq]; exact ht.2⟩
theorem qks {s : List Pr} (h : okS s) : ∀ l, qt l = true → qt (qby s l) = true
 | [], _ => by rw [qby, qt]
 | x :: r, hl => by
   rw [qt, Bool.and_eq_true] at hl
   rw [qby, qt, Bool.and_eq_true]
   exact ⟨qm4 h x hl.1, qks h r hl.2⟩
end
def setR (l : List Pr) (v : Int) (t : Ty) : List Pr × Int := if qg t = true then (match qq v l with | some _ => (l, 6) | none => (insR v t l, 0)) else (l, 1)
theorem qly {s : List Pr} (h : okS s) (v : Int) (t : Ty) : okS (setR s v t).1 := by
 rw [setR]
 split
 ·rename_i ht
  cases hl : qq v s with
  | some u => exact h
  | none =>
    refine ⟨qrs h.1 hl, fun p hp => ?_⟩
    rcases insR_mem.1 hp with rfl | hp
    ·exact ht
    ·exact h.2 p hp
 ·exact h
theorem ql1 (s : List Pr) (v : Int) (t : Ty) : (setR s v t).1.length ≤ s.length + 1 := by
 rw [setR]
 split
 ·cases qq v s with
  | some u => simp
  | none => simp only [qrk]; omega
 ·simp
def addR (s : List Pr) : List Pr → List Pr
 | [] => s
 | p :: r => addR (setR s p.v p.ty).1 r
theorem qpw : ∀ (l : List Pr) {s : List Pr}, okS s → okS (addR s l)
 | [], s, h => h
 | p :: r, s, h => qpw r (qly h p.v p.ty)
theorem qrm : ∀ (l s : List Pr), (addR s l).length ≤ s.length + l.length
 | [], s => by simp [addR]
 | p :: r, s => by
   have h1 := qrm r (setR s p.v p.ty).1
   have h2 := ql1 s p.v p.ty
   rw [addR, List.length_cons]; omega
def newR (l : List Pr) : List Pr := addR [] l
theorem qqt (l : List Pr) : okS (newR l) := qpw l qg8
theorem q1p (l : List Pr) : (newR l).length ≤ l.length := by have := qrm l []; rw [newR]; simpa using this
def appR (s : List Pr) (t : Ty) : Ty × Int := if qg t = true then (if 4096 < sizR s t then (Y0, 2) else if qg (putY s t) = true then (putY s t, 0) else (Y0, 2)) else (Y0, 1)
theorem qqy {s : List Pr} (h : okS s) (t : Ty) : appR s t = if qg t = true then (if qg (putY s t) = true then (putY s t, 0) else (Y0, 2)) else (Y0, 1) := by
 rw [appR]
 split
 ·rename_i ht
  have hs := qfl ht
  have hz := qmf s t (qcn t hs)
  split
  ·rename_i hb
   rw [if_neg]
   intro hl
   have := ((qs _).1 hl).1
   omega
  ·rfl
 ·rfl
def appP (s : List Pr) (t : Ty) : Ty × Int := if qg t = true then (if (bput s t 4096 1).1 < 0 then (Y0, 2) else ((bput s t 4096 1).2, 0)) else (Y0, 1)
theorem qbhr {s : List Pr} (h : okS s) (t : Ty) : appP s t = appR s t := by
 rw [appP, qqy h]
 split
 ·rename_i ht
  obtain ⟨h1, h2, h3⟩ := (qs t).1 ht
  have hz := qmf s t (qcn t h3)
  have hp := qm4 h t h3
  have key := qsj s t 4096 1 (qcn t h3) (by omega) (by omega)
  by_cases hk : (sizR s t : Int) ≤ 4096 ∧ 1 + dpY (putY s t) ≤ 101
  ·have hk' : (sizR s t : Int) ≤ 4096 ∧ (1 : Int) + dpY (putY s t) ≤ 101 := by omega
   rw [key.1 hk', if_neg (by simp only; omega), if_pos ((qs _).2 ⟨by omega, by omega, hp⟩)]
  ·rw [if_pos (key.2 (by omega)), if_neg]
   intro hl
   have := (qs _).1 hl
   omega
 ·rfl
theorem qth {s : List Pr} (h : okS s) {t : Ty} (he : (appR s t).2 = 0) : qg t = true ∧ qg (putY s t) = true ∧ (appR s t).1 = putY s t := by
 rw [qqy h] at he ⊢
 split at he
 ·rename_i h1
  split at he
  ·rename_i h2
   rw [if_pos h1, if_pos h2]
   exact ⟨h1, h2, rfl⟩
  ·exact absurd he (by simp)
 ·exact absurd he (by simp)
def qnm (t : List Pr) : List Pr → List Pr → List Pr × Int
 | acc, [] => (acc, 0)
 | acc, p :: r => if (appR t p.ty).2 = 0 then qnm t (acc ++ [⟨p.v, (appR t p.ty).1⟩]) r else ([], (appR t p.ty).2)
def behR (s t : List Pr) : List Pr × Int := if (qnm t [] s).2 = 0 then (addR (qnm t [] s).1 t, 0) else ([], (qnm t [] s).2)
theorem qos {t : List Pr} (ht : okS t) : ∀ (s acc : List Pr), (qnm t acc s).2 = 0 → (qnm t acc s).1 = acc ++ s.map (fun p => ⟨p.v, putY t p.ty⟩) ∧ ∀ p ∈ s, qg (putY t p.ty) = true
 | [], acc, _ => ⟨by simp [qnm], fun p hp => by simp at hp⟩
 | p :: r, acc, he => by
   rw [qnm] at he ⊢
   split at he
   ·rename_i h0
    obtain ⟨h1, h2, h3⟩ := qth ht h0
    obtain ⟨q1, q2⟩ := qos ht r _ he
    rw [if_pos h0]
    refine ⟨by rw [q1, h3]; simp, fun q hq => ?_⟩
    rcases List.mem_cons.1 hq with rfl | hq
    ·exact h2
    ·exact q2 q hq
   ·rename_i h0
    exact absurd he h0
theorem qyl {t : List Pr} : ∀ {s : List Pr}, risR s → risR (s.map fun p => (⟨p.v, putY t p.ty⟩ : Pr))
 | [], _ => trivial
 | p :: r, h => ⟨fun q hq => by
     obtain ⟨x, hx, rfl⟩ := List.mem_map.1 hq
     exact h.1 x hx, qyl h.2⟩
theorem qnd {s : List Pr} {v x : Int} {t : Ty} (ht : qg t = true) : qq x (setR s v t).1 = match qq x s with | some u => some u | none => if x = v then some t else none := by
 rw [setR, if_pos ht]
 cases hl : qq v s with
 | some u =>
   simp only
   cases hx : qq x s with
   | some w => rfl
   | none =>
     simp only
     rw [if_neg]
     rintro rfl
     rw [hl] at hx
     cases hx
 | none =>
   simp only
   rw [qe1 hl]
   split
   ·rename_i h; subst h; rw [hl]
   ·cases qq x s <;> rfl
theorem q5a {s t : List Pr} (hs : okS s) (ht : okS t) : okS (behR s t).1 := by
 rw [behR]
 split
 ·rename_i he
  obtain ⟨q1, q2⟩ := qos ht s [] he
  refine qpw t ?_
  rw [q1, List.nil_append]
  refine ⟨qyl hs.1, fun p hp => ?_⟩
  obtain ⟨x, hx, rfl⟩ := List.mem_map.1 hp
  exact q2 x hx
 ·exact qg8
set_option maxRecDepth 4000

def qt8 (a b : Pd) : Bool := decide (a.cls = b.cls) && qfh a.ty b.ty
theorem qxu (a b : Pd) : qt8 a b = true ↔ a = b := by
 rw [qt8, Bool.and_eq_true, decide_eq_true_eq, qh8]
 cases a; cases b; simp
theorem qp3 (p : Pd) : AV.agg [.str p.ty.con, .int .i64 p.ty.var, .sl 3 (qi p.ty.args)] = encY p.ty := qbq _
theorem qlf (a b : Pd) : qj Tryz.prog 37 [encP a, encP b] (.bool (qt8 a b)) := by
 refine qd c0cp (by simp) (by simp only [go_sem]) rfl fun hw => ?_
 repeat' (first | refine vs_ ?_ | ((first | refine vr_ ?_ | refine qa (qtm _ _) fun _ => ?_ | (refine cs_ ?_ ?_ <;> intro hc) | refine cj_ ?_ | fail) <;> (try refine ev_ ?_)) | with_reducible exact ti_)
 all_goals simp [qt8, *]
set_option maxRecDepth 4000

def qf9 : List Pd → List Pd → Bool
 | [], [] => true
 | x :: r, y :: r' => qt8 x y && qf9 r r'
 | _, _ => false
theorem qj7 : ∀ l m, qf9 l m = true ↔ l = m
 | [], [] => by simp [qf9]
 | [], y :: r => by rw [qf9] <;> simp
 | x :: r, [] => by rw [qf9] <;> simp
 | x :: r, y :: r' => by rw [qf9, Bool.and_eq_true, qxu, qj7 r r']; simp
theorem qy3 {l m : List Pd} (h : l.length ≠ m.length) : qf9 l m = false := by
 cases hh : qf9 l m with
 | false => rfl
 | true => rw [(qj7 l m).1 hh] at h; exact absurd rfl h
theorem qla {l m : List Pd} {i : Nat} (h : i < l.length) (h' : i < m.length) : qf9 (l.drop i) (m.drop i) = (qt8 (l.getD i P0) (m.getD i P0) && qf9 (l.drop (i + 1)) (m.drop (i + 1))) := by
 rw [qbjq h, qbjq h', qf9]
theorem qti (l m : List Pd) : qj Tryz.prog 19 [.sl 4 (qy l), .sl 4 (qy m)] (.bool (qf9 l m)) := by
 refine qd c0cm (by simp) (by simp only [go_sem]) rfl fun hw => ?_
 have hl := (qdi hw.1).1
 repeat' (first | refine vs_ ?_ | ((first | refine vr_ ?_ | (refine cs_ ?_ ?_ <;> intro hc) | refine cj_ ?_ | simp (disch := omega) only [encs_getN, qb]) <;> (try refine ev_ ?_)) | with_reducible exact ti_)
 ·rw [qy3 (by omega)]
 have hlm : l.length = m.length := by omega
 refine qo (S := Nat) (fun i => i ≤ l.length ∧ qf9 (l.drop i) (m.drop i) = qf9 l m) (fun i => (⟨[(0, .sl 4 (qy l)), (1, .sl 4 (qy m)), (5, .int .i64 i)], []⟩, [])) (fun i => l.length - i) ?_ fun i hi => ?_
 ·refine qh 0 [] ⟨Nat.zero_le _, rfl⟩ rfl (by simp) ?_ ?_ ?_ <;> (try refine ev_ ?_) <;> (try with_reducible exact ti_) <;> (try simp (disch := omega) only [qb, and_true, true_and])
 ·obtain ⟨hi, ha⟩ := hi
  repeat' (first | refine vs_ ?_ | ((first | refine vr_ ?_ | fail) <;> (try simp (disch := first | omega | (simp only [List.length_set, List.length_append, List.length_cons, List.length_nil]; done) | (simp only [List.length_set, List.length_append, List.length_cons, List.length_nil]; omega)) only [qbr, qb, go_sem, ↓reduceIte])) | ((first | (refine cs_ ?_ ?_ <;> intro hc) | refine cj_ ?_ | simp (disch := omega) only [encs_getN, qb] | refine qa (qlf _ _) fun _ => ?_ | refine qc (qlf _ _) ?_) <;> (try refine ev_ ?_)) | with_reducible exact ti_)
  ·rename_i hc; rw [← ha, qla (by omega) (by omega), hc]; rfl
  ·rename_i hc
   refine qh (i + 1) [] ⟨⟨by omega, ?_⟩, by omega⟩ rfl (by simp) ?_ ?_ ?_ <;> (try refine ev_ ?_) <;> (try with_reducible exact ti_) <;> (try simp (disch := omega) only [qb, and_true, true_and])
   rw [← ha, qla (l := l) (m := m) (i := i) (by omega) (by omega), hc, Bool.true_and]
  ·rw [← ha, List.drop_of_length_le (by omega), List.drop_of_length_le (by omega)]; rfl
def qjv (p : Pd) : Bool := conW p.cls && qg p.ty
theorem qph {p : Pd} (h1 : szY p.ty ≤ 20000) (h2 : dpY p.ty ≤ 300) : qj Tryz.prog 49 [encP p] (.bool (qjv p)) := by
 refine qd c0cn (by simp) (by simp only [go_sem]) rfl fun hw => ?_
 repeat' (first | refine vs_ ?_ | ((first | refine vr_ ?_ | refine qa (qf5 _) fun _ => ?_ | refine qa (qch h1 h2) fun _ => ?_ | (refine cs_ ?_ ?_ <;> intro hc) | refine cj_ ?_ | fail) <;> (try refine ev_ ?_)) | with_reducible exact ti_)
 all_goals simp [qjv, *]
def fewP (l : List Pd) : Bool := decide (l.length ≤ 30) && qk9 (l.map Pd.ty)
theorem qib {l : List Ty} (h : l ≠ []) : qi l ≠ [] := by cases l with | nil => exact absurd rfl h | cons _ _ => simp [qi]
theorem qbt : qi [] = [] := by rw [qi]
theorem qt9 (t : Ty) : [encY t] = qi [t] := by rw [qi, qi]
theorem ql9 (l : List Pd) (i : Nat) (h : i < l.length) : (l.map Pd.ty).take (i + 1) = (l.map Pd.ty).take i ++ [(l.getD i P0).ty] := by
 rw [List.take_add_one, List.getElem?_map, List.getElem?_eq_getElem h, List.getD_eq_getElem?_getD, List.getElem?_eq_getElem h]; rfl
theorem capY {k : Nat} (h : k ≤ 1000000000) : qbv k 48 := by unfold qbv; omega
def qyr (l : List Pd) (i : Nat) : AF × List Ent := (⟨[(0, .sl 4 (qy l)), (3, accV 0 (qi ((l.map Pd.ty).take i))), (4, .int .i64 i)], []⟩, accE 3 (qi ((l.map Pd.ty).take i)))
theorem qblf (l : List Pd) : qj Tryz.prog 16 [.sl 4 (qy l)] (.int .i64 (if fewP l = true then 1 else 0)) := by
 refine qd c0co (by simp) (by simp only [go_sem]) rfl fun hw => ?_
 have hl := (qdi hw.1).1
 repeat' (first | refine vs_ ?_ | ((first | refine vr_ ?_ | (refine cs_ ?_ ?_ <;> intro hc) | refine cj_ ?_ | simp (disch := omega) only [encs_getN, qb]) <;> (try refine ev_ ?_)) | with_reducible exact ti_)
 ·rw [if_neg (by simp [fewP]; omega)]
 have h30 : l.length ≤ 30 := by omega
 refine qo (S := Nat) (fun i => i ≤ l.length) (qyr l) (fun i => l.length - i) ?_ fun i hi => ?_
 ·refine qh 0 [] (Nat.zero_le _) rfl (by simp) ?_ ?_ ?_ <;> simp only [qyr, List.take_zero, qbt, q6, qz] <;> (try refine ev_ ?_) <;> (try with_reducible exact ti_) <;> (try simp (disch := omega) only [qb, and_true, true_and])
 ·have hfin : fewP l = qk9 (l.map Pd.ty) := by rw [fewP, decide_eq_true h30, Bool.true_and]
  have hlm : ((l.map Pd.ty).take i).length = i := by rw [List.length_take, List.length_map]; omega
  have hcap : qbv (i + 1) 48 = True := eq_true (capY (by omega))
  unfold qyr
  by_cases hlt : i < l.length
  ·have hs := ql9 l i hlt
   by_cases h0 : i = 0
   ·subst h0
    simp only [List.take_zero, qbt, q6, qz]
    repeat' (first | refine vs_ ?_ | ((first | refine vr_ ?_ | fail) <;> (try simp (disch := first | omega | (simp only [List.length_set, List.length_append, List.length_cons, List.length_nil]; done) | (simp only [List.length_set, List.length_append, List.length_cons, List.length_nil]; omega)) only [qbr, qb, qp3, go_sem, ↓reduceIte])) | ((first | simp (disch := omega) only [(show qbv 1 48 = True from eq_true (capY (by omega)))] | (refine cs_ ?_ ?_ <;> intro hc) | refine cj_ ?_ | simp (disch := omega) only [encs_getN, qb]) <;> (try refine ev_ ?_)) | with_reducible exact ti_)
    ·refine qh 1 [0] ⟨by omega, by omega⟩ rfl (by simp) ?_ ?_ ?_ <;> simp only [qyr, hs, List.take_zero, List.nil_append, ← qt9, qdj, qdk] <;> (try refine ev_ ?_) <;> (try with_reducible exact ti_) <;> (try simp (disch := omega) only [qb, and_true, true_and])
     all_goals (rw [qih])
    ·omega
   ·have hne : (l.map Pd.ty).take i ≠ [] := fun h => h0 (by rw [← hlm, h]; rfl)
    simp only [qb1 (qib hne), qb0 (qib hne), qn, hlm]
    repeat' (first | refine vs_ ?_ | ((first | refine vr_ ?_ | fail) <;> (try simp (disch := first | omega | (simp only [List.length_set, List.length_append, List.length_cons, List.length_nil]; done) | (simp only [List.length_set, List.length_append, List.length_cons, List.length_nil]; omega)) only [qbr, qb, qp3, qn, hlm, go_sem, ↓reduceIte])) | ((first | simp (disch := omega) only [hcap] | (refine cs_ ?_ ?_ <;> intro hc) | refine cj_ ?_ | simp (disch := omega) only [encs_getN, qb]) <;> (try refine ev_ ?_)) | with_reducible exact ti_)
    ·have hl2 : qi ((l.map Pd.ty).take (i + 1)) = qi ((l.map Pd.ty).take i) ++ [encY (l.getD i P0).ty] := by rw [hs, qc9]
     refine qh (i + 1) [1] ⟨by omega, by omega⟩ rfl (by simp) ?_ ?_ ?_ <;> simp only [qyr, hl2, qcs, qcq, qn, hlm] <;> (try refine ev_ ?_) <;> (try with_reducible exact ti_) <;> (try simp (disch := omega) only [qb, and_true, true_and])
     all_goals (simp only [qc9]; exact ⟨qbs _ _, by rw [qct]⟩)
    ·omega
  ·have hend : (l.map Pd.ty).take i = l.map Pd.ty := List.take_of_length_le (by rw [List.length_map]; omega)
   have hf := qbta (l.map Pd.ty)
   rw [hend, hfin]
   by_cases h0 : l.map Pd.ty = []
   ·rw [h0] at hf ⊢
    simp only [qbt, q6, qz]
    repeat' (first | refine vs_ ?_ | ((first | refine vr_ ?_ | fail) <;> (try simp only [qba, go_sem, ↓reduceIte])) | ((first | (refine cs_ ?_ ?_ <;> intro hc) | refine cj_ ?_ | simp (disch := omega) only [encs_getN, qb] | refine qa hf fun _ => ?_) <;> (try refine ev_ ?_)) | with_reducible exact ti_)
    all_goals omega
   ·simp only [qb1 (qib h0), qb0 (qib h0), qn]
    repeat' (first | refine vs_ ?_ | ((first | refine vr_ ?_ | fail) <;> (try simp only [qn, go_sem, ↓reduceIte])) | ((first | (refine cs_ ?_ ?_ <;> intro hc) | refine cj_ ?_ | simp (disch := omega) only [encs_getN, qb] | refine qa hf fun _ => ?_) <;> (try refine ev_ ?_)) | with_reducible exact ti_)
    all_goals omega

/-! the reference's -/

end Go.Proofs.YtbbjelfnocmaoaaGreat
