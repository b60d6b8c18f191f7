/- Texts of this proof, joined. -/
import Derived.Test.YtlahgbhhejkgbaaGreatKbl
import Derived.Test.YtlahgbhhejkgbaaGreatKbo

/- made one: the reference's walk -/
set_option maxRecDepth 4000
namespace Go.Proofs.YtlahgbhhejkgbaaGreat
open Go Go.RowKit Go.V
set_option linter.unusedVariables false
set_option linter.unusedSimpArgs false

theorem qf8 (q : List Pr × Int) : rowA q = .tup [.sl 4 (qs q.1), .int .i64 q.2] := rfl
theorem qls {s : List Pr} (hs : okS s) (hl : s.length ≤ 40000) (v : Int) {t : Ty} (ht : qd t = true) : qj Tryz.prog 50 [.sl 4 (qs s), .int .i64 v, encY t] (rowA (bndU s v t)) := by
 refine qg c0dn (by simp) (by simp only [AV.bds, AV.bd, qbz, qz, Bool.and_true]) (qkl _ _) fun hw => ?_
 have z := (qp _).1 ht
 have hH := qyw t v (by omega)
 have hT := qt3 hs (qdj (v := v) ht) hl (by simp)
 have hT : qj Tryz.prog 73 [.sl 4 (qs s), .sl 4 [encR ⟨v, t⟩]] (rowA (behR s [⟨v, t⟩])) := hT
 by_cases hn : t.con = [] ∧ t.var = v
 ·rw [bndU, if_pos hn]
  repeat' (first | refine vs_ ?_ | ((first | refine vr_ ?_ | fail) <;> (try simp only [hn.1, hn.2, go_sem, ↓reduceIte])) | ((first | (refine cs_ ?_ ?_ <;> intro hc) | refine cj_ ?_ | fail) <;> (try refine ev_ ?_)) | with_reducible exact ti_)
  all_goals rfl
 by_cases hv : v ∈ varY t
 ·rw [decide_eq_true hv] at hH
  rw [bndU, if_neg hn, if_pos hv]
  repeat' (first | refine vs_ ?_ | ((first | refine vr_ ?_ | refine qa hH fun _ => ?_ | (refine cs_ ?_ ?_ <;> intro hc) | refine cj_ ?_ | fail) <;> (try refine ev_ ?_)) | with_reducible exact ti_)
  all_goals first | exact absurd ⟨by assumption, by assumption⟩ hn | rfl
 ·rw [decide_eq_false hv] at hH
  rw [bndU, if_neg hn, if_neg hv]
  obtain ⟨q, hq⟩ : ∃ q, behR s [⟨v, t⟩] = q := ⟨_, rfl⟩
  rw [hq, qf8] at hT
  rw [hq]
  repeat' (first | refine vs_ ?_ | ((first | refine vr_ ?_ | refine qa hH fun _ => ?_ | refine qa hT fun _ => ?_ | (refine cs_ ?_ ?_ <;> intro hc) | refine cj_ ?_ | fail) <;> (try refine ev_ ?_)) | with_reducible exact ti_)
  all_goals first | exact absurd ⟨by assumption, by assumption⟩ hn | rfl
theorem q3s {V : List Int} {s r : List Pr} {x st : List (Ty × Ty)} (h : Inv V s (x ++ st)) (h' : Inv V r []) : Inv V r st :=
 ⟨h'.ok, h'.sep, h'.keys, h'.vars, fun y hy => h.leg y (by simp [hy]), fun y hy => h.stk y (by simp [hy])⟩
theorem qxl {V : List Int} {s : List Pr} {x : Ty × Ty} {st : List (Ty × Ty)} (h : Inv V s (x :: st)) : Inv V s [x] :=
 ⟨h.ok, h.sep, h.keys, h.vars, fun y hy => h.leg y (by simp at hy; simp [hy]), fun y hy => h.stk y (by simp at hy; simp [hy])⟩
theorem qz0 {V : List Int} {n : Nat} {s : List Pr} {x : Ty × Ty} {st : List (Ty × Ty)} {q : List Pr × Int} (h : Inv V s (x :: st)) (hq : slvU n s (x :: st) = some q) :
 ∃ m r, m ≤ n ∧ slvU m s [x] = some r ∧ Inv V s [x] ∧ (r.2 ≠ 0 → q = r ∧ r.1 = []) ∧ (r.2 = 0 → ∃ k, k ≤ n ∧ slvU k r.1 st = some q ∧ Inv V r.1 st) := by
 obtain ⟨m, r, h1, h2, h3, h4⟩ := qia n s [x] st q hq
 refine ⟨m, r, h1, h2, qxl h, h3, fun hr => ?_⟩
 obtain ⟨k, h5, h6⟩ := h4 hr
 obtain ⟨h7, _⟩ := qhw m s [x] r (qxl h) h2 hr
 exact ⟨k, h5, h6, q3s (x := [x]) h h7⟩
def onSt (A B : Ty) (x : Nat × List Pr × Nat) : AF × List Ent := (⟨[(0, .sl 4 (qs x.2.1)), (4, .ptr 0 0), (5, .ptr 1 0), (9, .int .i64 x.1)], []⟩, [.blk (yc A), .blk (yc B)])
set_option maxHeartbeats 2000000 in
theorem q02 {V : List Int} (hV : V.length ≤ 40000) : ∀ (n : Nat) (s : List Pr) (a b : Ty) (q : List Pr × Int), Inv V s [(a, b)] → slvU n s [(a, b)] = some q → qj Tryz.prog 30 [.sl 4 (qs s), encY a, encY b] (rowA q) := by
 intro n
 induction n using Nat.strongRecOn with
 | ind n ih =>
 intro s a b q hI hq
 obtain ⟨m, rfl⟩ : ∃ m, n = m + 1 := by
  cases n with
  | zero => simp [slvU] at hq
  | succ m => exact ⟨m, rfl⟩
 obtain ⟨ha, hb⟩ := hI.leg (a, b) (by simp)
 dsimp only at ha hb
 have hs := hI.ok
 have hsl := hI.len
 have z1 := (qp _).1 ha
 have z2 := (qp _).1 hb
 have fA := qf5 hs (t := a) (by omega) (by omega)
 have fB := qf5 hs (t := b) (by omega) (by omega)
 have hst := qev hI
 have hnx := fun h0 => (qfu hI hst h0).1
 rw [slvU] at hq
 dsimp only at hq
 refine qg c0do (by simp) (by simp only [AV.bds, AV.bd, qbz, qz, Bool.and_true]) (qkl _ _) fun hw => ?_
 rw [stpU] at hq hnx
 by_cases e1 : (appR s a).2 = 0
 case neg =>
  rw [if_neg e1, if_neg e1] at hq
  simp only [Option.some.injEq] at hq
  subst hq
  have hT : typA (appR s a) = .tup [encY (appR s a).1, .int .i64 (appR s a).2] := rfl
  rw [hT] at fA
  have hd : decide ((appR s a).2 = 0) = false := decide_eq_false e1
  repeat' (first | refine vs_ ?_ | ((first | refine vr_ ?_ | fail) <;> (try simp only [hd, decide_false, go_sem, ↓reduceIte])) | ((first | (refine cs_ ?_ ?_ <;> intro hc) | refine cj_ ?_ | simp (disch := omega) only [encs_getN, qb] | refine qa fA fun _ => ?_ | refine qc fA ?_) <;> (try refine ev_ ?_)) | with_reducible exact ti_)
  all_goals rfl
 rw [if_pos e1] at hq hnx
 have hA : appR s a = ((appR s a).1, 0) := Prod.ext rfl e1
 by_cases e2 : (appR s b).2 = 0
 case neg =>
  rw [if_neg e2, if_neg e2] at hq
  simp only [Option.some.injEq] at hq
  subst hq
  have hT : typA (appR s a) = .tup [encY (appR s a).1, .int .i64 0] := by rw [hA]; rfl
  rw [hT] at fA
  have hT : typA (appR s b) = .tup [encY (appR s b).1, .int .i64 (appR s b).2] := rfl
  rw [hT] at fB
  have hd : decide ((appR s b).2 = 0) = false := decide_eq_false e2
  repeat' (first | refine vs_ ?_ | ((first | refine vr_ ?_ | fail) <;> (try simp only [hd, decide_false, go_sem, ↓reduceIte])) | ((first | (refine cs_ ?_ ?_ <;> intro hc) | refine cj_ ?_ | simp (disch := omega) only [encs_getN, qb] | refine qa fA fun _ => ?_ | refine qa fB fun _ => ?_ | refine qc fA ?_ | refine qc fB ?_) <;> (try refine ev_ ?_)) | with_reducible exact ti_)
  all_goals rfl
 rw [if_pos e2] at hq hnx
 have hB : appR s b = ((appR s b).1, 0) := Prod.ext rfl e2
 have hT : typA (appR s a) = .tup [encY (appR s a).1, .int .i64 0] := by rw [hA]; rfl
 rw [hT] at fA
 have hT : typA (appR s b) = .tup [encY (appR s b).1, .int .i64 0] := by rw [hB]; rfl
 rw [hT] at fB
 have hAl : qd (appR s a).1 = true := by obtain ⟨_, h1, h2⟩ := qbl hs e1; rw [h2]; exact h1
 have hBl : qd (appR s b).1 = true := by obtain ⟨_, h1, h2⟩ := qbl hs e2; rw [h2]; exact h1
 generalize (appR s a).1 = A at fA hAl hq hnx
 generalize (appR s b).1 = B at fB hBl hq hnx
 clear hA hB hT e1 e2 hst
 rw [hdU] at hq hnx
 by_cases c1 : A.con = []
 ·rw [if_pos c1] at hq
  have fb := qls hs (by omega) A.var hBl
  have hqe : q = if (bndU s A.var B).2 = 0 then ((bndU s A.var B).1, 0) else ([], (bndU s A.var B).2) := by
   split at hq
   ·rename_i h0
    rw [List.append_nil, qei] at hq
    dsimp only at h0
    rw [if_pos h0]
    simpa using hq.symm
   ·rename_i h0
    dsimp only at h0
    rw [if_neg h0]
    simpa using hq.symm
  have hbq : q = bndU s A.var B := by
   rw [hqe]
   cases qhd hs A.var hBl with
   | same h1 h2 h => rw [h]; rfl
   | no h h' hn => rw [if_neg h]; exact Prod.ext h'.symm rfl
   | new r h hn hv h' => rw [h']; rfl
  rw [← hbq, qf8] at fb
  repeat' (first | refine vs_ ?_ | ((first | refine vr_ ?_ | fail) <;> (try simp only [c1, go_sem, ↓reduceIte])) | ((first | (refine cs_ ?_ ?_ <;> intro hc) | refine cj_ ?_ | simp (disch := omega) only [encs_getN, qb] | refine qa fA fun _ => ?_ | refine qa fB fun _ => ?_ | refine qa fb fun _ => ?_ | refine qc fA ?_ | refine qc fB ?_ | refine qc fb ?_) <;> (try refine ev_ ?_)) | with_reducible exact ti_)
  all_goals rfl
 rw [if_neg c1] at hq hnx
 by_cases c2 : B.con = []
 ·rw [if_pos c2] at hq
  have fb := qls hs (by omega) B.var hAl
  have hqe : q = if (bndU s B.var A).2 = 0 then ((bndU s B.var A).1, 0) else ([], (bndU s B.var A).2) := by
   split at hq
   ·rename_i h0
    rw [List.append_nil, qei] at hq
    dsimp only at h0
    rw [if_pos h0]
    simpa using hq.symm
   ·rename_i h0
    dsimp only at h0
    rw [if_neg h0]
    simpa using hq.symm
  have hbq : q = bndU s B.var A := by
   rw [hqe]
   cases qhd hs B.var hAl with
   | same h1 h2 h => rw [h]; rfl
   | no h h' hn => rw [if_neg h]; exact Prod.ext h'.symm rfl
   | new r h hn hv h' => rw [h']; rfl
  rw [← hbq, qf8] at fb
  repeat' (first | refine vs_ ?_ | ((first | refine vr_ ?_ | fail) <;> (try simp only [c1, c2, go_sem, ↓reduceIte])) | ((first | (refine cs_ ?_ ?_ <;> intro hc) | refine cj_ ?_ | simp (disch := omega) only [encs_getN, qb] | refine qa fA fun _ => ?_ | refine qa fB fun _ => ?_ | refine qa fb fun _ => ?_ | refine qc fA ?_ | refine qc fB ?_ | refine qc fb ?_) <;> (try refine ev_ ?_)) | with_reducible exact ti_)
  all_goals rfl
 rw [if_neg c2] at hq hnx
 by_cases c3 : A.con = B.con ∧ A.args.length = B.args.length
 case neg =>
  rw [if_neg c3, if_neg (by decide)] at hq
  simp only [Option.some.injEq] at hq
  subst hq
  repeat' (first | refine vs_ ?_ | ((first | refine vr_ ?_ | fail) <;> (try simp only [c1, c2, go_sem, ↓reduceIte])) | ((first | (refine cs_ ?_ ?_ <;> intro hc) | refine cj_ ?_ | simp (disch := omega) only [encs_getN, qb] | refine qa fA fun _ => ?_ | refine qa fB fun _ => ?_ | refine qc fA ?_ | refine qc fB ?_) <;> (try refine ev_ ?_)) | with_reducible exact ti_)
  ·rfl
  ·rfl
  ·exact absurd ⟨by assumption, by omega⟩ c3
 rw [if_pos c3] at hq hnx
 rw [if_pos rfl] at hq
 have hI0 := hnx rfl
 dsimp only at hq hI0
 rw [List.append_nil] at hq hI0
 obtain ⟨c3, c4⟩ := c3
 have hzl : (A.args.zip B.args).length = A.args.length := by rw [List.length_zip]; omega
 have hal := qd7 A.args
 have hsz := ((qp _).1 hAl).1
 rw [qdx] at hsz
 repeat' (first | refine vs_ ?_ | ((first | refine vr_ ?_ | fail) <;> (try simp only [c1, c2, go_sem, ↓reduceIte])) | ((first | (refine cs_ ?_ ?_ <;> intro hc) | refine cj_ ?_ | simp (disch := omega) only [encs_getN, qb] | refine qa fA fun _ => ?_ | refine qa fB fun _ => ?_ | refine qc fA ?_ | refine qc fB ?_) <;> (try refine ev_ ?_)) | with_reducible exact ti_)
 all_goals try (exfalso; first | omega | contradiction)
 refine qq (S := Nat × List Pr × Nat) (fun x => x.1 ≤ A.args.length ∧ x.2.2 ≤ m ∧ slvU x.2.2 x.2.1 ((A.args.zip B.args).drop x.1) = some q ∧ Inv V x.2.1 ((A.args.zip B.args).drop x.1)) (onSt A B) (fun x => A.args.length - x.1) ?_ ?_
 ·refine qi (0, s, m) [0, 1] ⟨Nat.zero_le _, Nat.le_refl _, hq, hI0⟩ rfl (by simp) ?_ ?_ ?_ <;> simp only [onSt] <;> (try refine ev_ ?_) <;> (try with_reducible exact ti_) <;> (try simp (disch := omega) only [qb, and_true, true_and])
 ·rintro ⟨i, r, k⟩ ⟨i1, i2, i3, i4⟩
  dsimp only at i1 i2 i3 i4
  unfold onSt
  dsimp only
  by_cases hlt : i < A.args.length
  ·have hg := qo hlt
   have hg' := qo (l := B.args) (i := i) (by omega)
   rw [qbu7 (by omega), qs6 c4 hlt] at i3 i4
   obtain ⟨k1, r1, j1, j2, j3, j4, j5⟩ := qz0 i4 i3
   have fo := ih k1 (by omega) _ _ _ _ j3 j2
   rw [qf8] at fo
   by_cases hr : r1.2 = 0
   ·rw [hr] at fo
    obtain ⟨k2, g1, g2, g3⟩ := j5 hr
    repeat' (first | refine vs_ ?_ | ((first | refine vr_ ?_ | fail) <;> (try simp (disch := first | omega | (simp only [List.length_set, List.length_append, List.length_cons, List.length_nil]; done) | (simp only [List.length_set, List.length_append, List.length_cons, List.length_nil]; omega)) only [hg, hg', qb, go_sem, ↓reduceIte])) | ((first | simp (disch := omega) only [hg] | simp (disch := omega) only [hg'] | (refine cs_ ?_ ?_ <;> intro hc) | refine cj_ ?_ | simp (disch := omega) only [encs_getN, qb] | refine qa fo fun _ => ?_ | refine qc fo ?_) <;> (try refine ev_ ?_)) | with_reducible exact ti_)
    all_goals try (exfalso; first | omega | contradiction)
    refine qi (i + 1, r1.1, k2) [0, 1] ⟨⟨by dsimp only; omega, by dsimp only; omega, g2, g3⟩, by dsimp only; omega⟩ rfl (by simp) ?_ ?_ ?_ <;> simp only [onSt] <;> (try refine ev_ ?_) <;> (try with_reducible exact ti_) <;> (try simp (disch := omega) only [qb, and_true, true_and])
    rw [qw (by omega) (by omega), Int.natCast_add]; rfl
   ·have hd : decide (r1.2 = 0) = false := decide_eq_false hr
    obtain ⟨hqr, hr1⟩ := j4 hr
    repeat' (first | refine vs_ ?_ | ((first | refine vr_ ?_ | fail) <;> (try simp (disch := first | omega | (simp only [List.length_set, List.length_append, List.length_cons, List.length_nil]; done) | (simp only [List.length_set, List.length_append, List.length_cons, List.length_nil]; omega)) only [hg, hg', qb, hd, decide_false, go_sem, ↓reduceIte])) | ((first | simp (disch := omega) only [hg] | simp (disch := omega) only [hg'] | (refine cs_ ?_ ?_ <;> intro hc) | refine cj_ ?_ | simp (disch := omega) only [encs_getN, qb] | refine qa fo fun _ => ?_ | refine qc fo ?_) <;> (try refine ev_ ?_)) | with_reducible exact ti_)
    all_goals try (exfalso; first | omega | contradiction)
    rw [hqr, qf8, hr1]; rfl
  ·rw [List.drop_of_length_le (by omega), qei] at i3
   simp only [Option.some.injEq] at i3
   subst i3
   repeat' (first | refine vs_ ?_ | ((first | refine vr_ ?_ | (refine cs_ ?_ ?_ <;> intro hc) | refine cj_ ?_ | simp (disch := omega) only [encs_getN, qb]) <;> (try refine ev_ ?_)) | with_reducible exact ti_)
   all_goals try (exfalso; first | omega | contradiction)
   rfl
theorem qqo {a b : Ty} (h1 : szY a ≤ 20000) (h2 : dpY a ≤ 300) (h3 : szY b ≤ 20000) (h4 : dpY b ≤ 300) {q : List Pr × Int} (h : UniQ a b q) : qj Tryz.prog 10 [encY a, encY b] (rowA q) := by
 have L1 := qdd h1 h2
 have L2 := qdd h3 h4
 refine qg c0dp (by simp) (by simp only [go_sem]) (qkl _ _) fun hw => ?_
 by_cases hl : qd a = true ∧ qd b = true
 ·rw [UniQ, if_pos hl] at h
  obtain ⟨n, hq⟩ := h
  rw [hl.1] at L1
  rw [hl.2] at L2
  have hO := q02 (by have := qrk hl.1 hl.2; omega) n [] a b q (qnj hl.1 hl.2) hq
  rw [qf8] at hO
  have hO : qj Tryz.prog 30 [.sl 4 [], encY a, encY b] _ := hO
  repeat' (first | refine vs_ ?_ | ((first | refine vr_ ?_ | refine qa L1 fun _ => ?_ | refine qa L2 fun _ => ?_ | refine qa hO fun _ => ?_ | (refine cs_ ?_ ?_ <;> intro hc) | refine cj_ ?_ | fail) <;> (try refine ev_ ?_)) | with_reducible exact ti_)
  all_goals rfl
 ·rw [UniQ, if_neg hl] at h
  subst h
  cases ha : qd a with
  | false =>
    rw [ha] at L1
    repeat' (first | refine vs_ ?_ | ((first | refine vr_ ?_ | refine qa L1 fun _ => ?_ | (refine cs_ ?_ ?_ <;> intro hc) | refine cj_ ?_ | fail) <;> (try refine ev_ ?_)) | with_reducible exact ti_)
    all_goals rfl
  | true =>
    have hb : qd b = false := by
     cases hb : qd b with
     | false => rfl
     | true => exact absurd ⟨ha, hb⟩ hl
    rw [ha] at L1
    rw [hb] at L2
    repeat' (first | refine vs_ ?_ | ((first | refine vr_ ?_ | refine qa L1 fun _ => ?_ | refine qa L2 fun _ => ?_ | (refine cs_ ?_ ?_ <;> intro hc) | refine cj_ ?_ | fail) <;> (try refine ev_ ?_)) | with_reducible exact ti_)
    all_goals rfl
set_option maxRecDepth 4000

theorem bSl (r : List Pr) : AV.bd 0 (.sl 4 (qs r)) = true := by simp only [AV.bd, qbz]
set_option maxHeartbeats 2000000 in
theorem qiq (a b : Ty) : qj Tryz.prog 3 [encY a, encY b] (.bool true) := by
 refine qg c0a (by simp) (bY2 _ _) rfl fun hw => ?_
 have hF := qwz a b
 cases hf : fewU [a, b] 0 with
 | false =>
   rw [hf] at hF
   repeat' (first | refine vs_ ?_ | ((first | refine vr_ ?_ | refine qa hF fun _ => ?_ | refine qa qqx fun _ => ?_ | (refine cs_ ?_ ?_ <;> intro hc) | refine cj_ ?_ | fail) <;> (try refine ev_ ?_)) | with_reducible exact ti_)
 | true =>
 rw [hf] at hF
 obtain ⟨h1, h2, h3, h4⟩ := q2g hf
 obtain ⟨q, hq⟩ := qbtd a b
 have hU := qct h1 h2 h3 h4 hq
 have hR := qqo h1 h2 h3 h4 hq
 rw [qf8] at hR
 obtain ⟨o1, o2, o3⟩ := qs3 hq
 obtain ⟨r, e⟩ := q
 dsimp only at o1 o2 o3 hR
 have hb2 := bY2 a b
 by_cases he : e = 0
 case neg =>
  have hd : decide (e = 0) = false := decide_eq_false he
  have hr := o3 he
  subst hr
  repeat' (first | refine vs_ ?_ | ((first | refine vr_ ?_ | fail) <;> (try simp only [hd, decide_false, go_sem, ↓reduceIte])) | ((first | (refine cs_ ?_ ?_ <;> intro hc) | refine cj_ ?_ | fail | refine qa hF fun _ => ?_ | refine qh9 hU hb2 rfl he ?_ | refine qa hR fun _ => ?_) <;> (try refine ev_ ?_)) | with_reducible exact ti_)
  all_goals try (exfalso; revert hc; simp; done)
  repeat' (first | refine vs_ ?_ | ((first | refine vr_ ?_ | fail) <;> (try simp only [hd, decide_false, go_sem, ↓reduceIte])) | ((first | (refine cs_ ?_ ?_ <;> intro hc) | refine cj_ ?_ | fail | refine qa qvq fun _ => ?_ | refine qa (qpd []) fun _ => ?_ | refine qa qqx fun _ => ?_) <;> (try refine ev_ ?_)) | with_reducible exact ti_)
 subst he
 have hP := qd2 (s := r) (by omega) (qgd o1)
 repeat' (first | refine vs_ ?_ | ((first | refine vr_ ?_ | refine qa hF fun _ => ?_ | refine qkt hU hb2 rfl ?_ | refine qa hR fun _ => ?_ | (refine cs_ ?_ ?_ <;> intro hc) | refine cj_ ?_ | fail) <;> (try refine ev_ ?_)) | with_reducible exact ti_)
 all_goals try (exfalso; revert hc; simp; done)
 repeat' (first | refine vs_ ?_ | ((first | refine vr_ ?_ | refine qx 2 hP rfl (bSl _) ?_ | refine qa (qpd r) fun _ => ?_ | refine qa qqx fun _ => ?_ | (refine cs_ ?_ ?_ <;> intro hc) | refine cj_ ?_ | fail) <;> (try refine ev_ ?_)) | with_reducible exact ti_)
end Go.Proofs.YtlahgbhhejkgbaaGreat
