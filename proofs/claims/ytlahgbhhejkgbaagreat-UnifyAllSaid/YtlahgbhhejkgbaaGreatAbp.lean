/- A text of this proof. -/
import Derived.Test.YtlahgbhhejkgbaaGreatAbl

/- made one: the reference's walk -/
set_option maxRecDepth 4000
namespace Go.Proofs.YtlahgbhhejkgbaaGreat
open Go Go.RowKit Go.V
set_option linter.unusedVariables false
set_option linter.unusedSimpArgs false

theorem qdr (q : List Pr × Int) : rowA q = .tup [.sl 4 (qt q.1), .int .i64 q.2] := rfl
theorem qls {s : List Pr} (hs : okS s) (hl : s.length ≤ 40000) (v : Int) {t : Ty} (ht : qd t = true) : ql Tryz.prog 50 [.sl 4 (qt s), .int .i64 v, encY t] (rowA (bndU s v t)) := by
 refine qf c0dp (by simp) (by simp only [AV.bds, AV.bd, qby, qz, Bool.and_true]) (qh2 _ _) fun hw => ?_
 have z := (qr _).1 ht
 have hH := qyu t v (by omega)
 have hT := qvb hs (qdn (v := v) ht) hl (by simp)
 have hT : ql Tryz.prog 73 [.sl 4 (qt s), .sl 4 [encR ⟨v, t⟩]] (rowA (behR s [⟨v, t⟩])) := hT
 by_cases hn : t.con = [] ∧ t.var = v
 ·rw [bndU, if_pos hn]
  repeat' (first | refine vs_ ?_ | ((first | refine vr_ ?_ | fail) <;> (try simp only [hn.1, hn.2, go_sem, ↓reduceIte])) | ((first | (refine cs_ ?_ ?_ <;> intro hc) | refine cj_ ?_ | fail) <;> (try refine ev_ ?_)) | with_reducible exact ti_)
  all_goals rfl
 by_cases hv : v ∈ varY t
 ·rw [decide_eq_true hv] at hH
  rw [bndU, if_neg hn, if_pos hv]
  repeat' (first | refine vs_ ?_ | ((first | refine vr_ ?_ | refine qa hH fun _ => ?_ | (refine cs_ ?_ ?_ <;> intro hc) | refine cj_ ?_ | fail) <;> (try refine ev_ ?_)) | with_reducible exact ti_)
  all_goals first | exact absurd ⟨by assumption, by assumption⟩ hn | rfl
 ·rw [decide_eq_false hv] at hH
  rw [bndU, if_neg hn, if_neg hv]
  obtain ⟨q, hq⟩ : ∃ q, behR s [⟨v, t⟩] = q := ⟨_, rfl⟩
  rw [hq, qdr] at hT
  rw [hq]
  repeat' (first | refine vs_ ?_ | ((first | refine vr_ ?_ | refine qa hH fun _ => ?_ | refine qa hT fun _ => ?_ | (refine cs_ ?_ ?_ <;> intro hc) | refine cj_ ?_ | fail) <;> (try refine ev_ ?_)) | with_reducible exact ti_)
  all_goals first | exact absurd ⟨by assumption, by assumption⟩ hn | rfl
theorem q1i {V : List Int} {s r : List Pr} {x st : List (Ty × Ty)} (h : Inv V s (x ++ st)) (h' : Inv V r []) : Inv V r st :=
 ⟨h'.ok, h'.sep, h'.keys, h'.vars, fun y hy => h.leg y (by simp [hy]), fun y hy => h.stk y (by simp [hy])⟩
theorem qya {V : List Int} {s : List Pr} {x : Ty × Ty} {st : List (Ty × Ty)} (h : Inv V s (x :: st)) : Inv V s [x] :=
 ⟨h.ok, h.sep, h.keys, h.vars, fun y hy => h.leg y (by simp at hy; simp [hy]), fun y hy => h.stk y (by simp at hy; simp [hy])⟩
theorem qoy {V : List Int} {n : Nat} {s : List Pr} {x : Ty × Ty} {st : List (Ty × Ty)} {q : List Pr × Int} (h : Inv V s (x :: st)) (hq : slvU n s (x :: st) = some q) :
 ∃ m r, m ≤ n ∧ slvU m s [x] = some r ∧ Inv V s [x] ∧ (r.2 ≠ 0 → q = r ∧ r.1 = []) ∧ (r.2 = 0 → ∃ k, k ≤ n ∧ slvU k r.1 st = some q ∧ Inv V r.1 st) := by
 obtain ⟨m, r, h1, h2, h3, h4⟩ := qfr n s [x] st q hq
 refine ⟨m, r, h1, h2, qya h, h3, fun hr => ?_⟩
 obtain ⟨k, h5, h6⟩ := h4 hr
 obtain ⟨h7, _⟩ := qfp m s [x] r (qya h) h2 hr
 exact ⟨k, h5, h6, q1i (x := [x]) h h7⟩
def onSt (A B : Ty) (x : Nat × List Pr × Nat) : AF × List Ent := (⟨[(0, .sl 4 (qt x.2.1)), (4, .ptr 0 0), (5, .ptr 1 0), (9, .int .i64 x.1)], []⟩, [.blk (yc A), .blk (yc B)])
set_option maxHeartbeats 2000000 in
theorem que {V : List Int} (hV : V.length ≤ 40000) : ∀ (n : Nat) (s : List Pr) (a b : Ty) (q : List Pr × Int), Inv V s [(a, b)] → slvU n s [(a, b)] = some q → ql Tryz.prog 30 [.sl 4 (qt s), encY a, encY b] (rowA q) := by
 intro n
 induction n using Nat.strongRecOn with
 | ind n ih =>
 intro s a b q hI hq
 obtain ⟨m, rfl⟩ : ∃ m, n = m + 1 := by
  cases n with
  | zero => simp [slvU] at hq
  | succ m => exact ⟨m, rfl⟩
 obtain ⟨ha, hb⟩ := hI.leg (a, b) (by simp)
 dsimp only at ha hb
 have hs := hI.ok
 have hsl := hI.len
 have z1 := (qr _).1 ha
 have z2 := (qr _).1 hb
 have fA := qel hs (t := a) (by omega) (by omega)
 have fB := qel hs (t := b) (by omega) (by omega)
 have hst := qfo hI
 have hnx := fun h0 => (qf1 hI hst h0).1
 rw [slvU] at hq
 dsimp only at hq
 refine qf c0dq (by simp) (by simp only [AV.bds, AV.bd, qby, qz, Bool.and_true]) (qh2 _ _) fun hw => ?_
 rw [stpU] at hq hnx
 by_cases e1 : (appR s a).2 = 0
 case neg =>
  rw [if_neg e1, if_neg e1] at hq
  simp only [Option.some.injEq] at hq
  subst hq
  have hT : typA (appR s a) = .tup [encY (appR s a).1, .int .i64 (appR s a).2] := rfl
  rw [hT] at fA
  have hd : decide ((appR s a).2 = 0) = false := decide_eq_false e1
  repeat' (first | refine vs_ ?_ | ((first | refine vr_ ?_ | fail) <;> (try simp only [hd, decide_false, go_sem, ↓reduceIte])) | ((first | (refine cs_ ?_ ?_ <;> intro hc) | refine cj_ ?_ | simp (disch := omega) only [encs_getN, qb] | refine qa fA fun _ => ?_ | refine qc fA ?_) <;> (try refine ev_ ?_)) | with_reducible exact ti_)
  all_goals rfl
 rw [if_pos e1] at hq hnx
 have hA : appR s a = ((appR s a).1, 0) := Prod.ext rfl e1
 by_cases e2 : (appR s b).2 = 0
 case neg =>
  rw [if_neg e2, if_neg e2] at hq
  simp only [Option.some.injEq] at hq
  subst hq
  have hT : typA (appR s a) = .tup [encY (appR s a).1, .int .i64 0] := by rw [hA]; rfl
  rw [hT] at fA
  have hT : typA (appR s b) = .tup [encY (appR s b).1, .int .i64 (appR s b).2] := rfl
  rw [hT] at fB
  have hd : decide ((appR s b).2 = 0) = false := decide_eq_false e2
  repeat' (first | refine vs_ ?_ | ((first | refine vr_ ?_ | fail) <;> (try simp only [hd, decide_false, go_sem, ↓reduceIte])) | ((first | (refine cs_ ?_ ?_ <;> intro hc) | refine cj_ ?_ | simp (disch := omega) only [encs_getN, qb] | refine qa fA fun _ => ?_ | refine qa fB fun _ => ?_ | refine qc fA ?_ | refine qc fB ?_) <;> (try refine ev_ ?_)) | with_reducible exact ti_)
  all_goals rfl
 rw [if_pos e2] at hq hnx
 have hB : appR s b = ((appR s b).1, 0) := Prod.ext rfl e2
 have hT : typA (appR s a) = .tup [encY (appR s a).1, .int .i64 0] := by rw [hA]; rfl
 rw [hT] at fA
 have hT : typA (appR s b) = .tup [encY (appR s b).1, .int .i64 0] := by rw [hB]; rfl
 rw [hT] at fB
 have hAl : qd (appR s a).1 = true := by obtain ⟨_, h1, h2⟩ := qbq hs e1; rw [h2]; exact h1
 have hBl : qd (appR s b).1 = true := by obtain ⟨_, h1, h2⟩ := qbq hs e2; rw [h2]; exact h1
 generalize (appR s a).1 = A at fA hAl hq hnx
 generalize (appR s b).1 = B at fB hBl hq hnx
 clear hA hB hT e1 e2 hst
 rw [hdU] at hq hnx
 by_cases c1 : A.con = []
 ·rw [if_pos c1] at hq
  have fb := qls hs (by omega) A.var hBl
  have hqe : q = if (bndU s A.var B).2 = 0 then ((bndU s A.var B).1, 0) else ([], (bndU s A.var B).2) := by
   split at hq
   ·rename_i h0
    rw [List.append_nil, qdf] at hq
    dsimp only at h0
    rw [if_pos h0]
    simpa using hq.symm
   ·rename_i h0
    dsimp only at h0
    rw [if_neg h0]
    simpa using hq.symm
  have hbq : q = bndU s A.var B := by
   rw [hqe]
   cases qhf hs A.var hBl with
   | same h1 h2 h => rw [h]; rfl
   | no h h' hn => rw [if_neg h]; exact Prod.ext h'.symm rfl
   | new r h hn hv h' => rw [h']; rfl
  rw [← hbq, qdr] at fb
  repeat' (first | refine vs_ ?_ | ((first | refine vr_ ?_ | fail) <;> (try simp only [c1, go_sem, ↓reduceIte])) | ((first | (refine cs_ ?_ ?_ <;> intro hc) | refine cj_ ?_ | simp (disch := omega) only [encs_getN, qb] | refine qa fA fun _ => ?_ | refine qa fB fun _ => ?_ | refine qa fb fun _ => ?_ | refine qc fA ?_ | refine qc fB ?_ | refine qc fb ?_) <;> (try refine ev_ ?_)) | with_reducible exact ti_)
  all_goals rfl
 rw [if_neg c1] at hq hnx
 by_cases c2 : B.con = []
 ·rw [if_pos c2] at hq
  have fb := qls hs (by omega) B.var hAl
  have hqe : q = if (bndU s B.var A).2 = 0 then ((bndU s B.var A).1, 0) else ([], (bndU s B.var A).2) := by
   split at hq
   ·rename_i h0
    rw [List.append_nil, qdf] at hq
    dsimp only at h0
    rw [if_pos h0]
    simpa using hq.symm
   ·rename_i h0
    dsimp only at h0
    rw [if_neg h0]
    simpa using hq.symm
  have hbq : q = bndU s B.var A := by
   rw [hqe]
   cases qhf hs B.var hAl with
   | same h1 h2 h => rw [h]; rfl
   | no h h' hn => rw [if_neg h]; exact Prod.ext h'.symm rfl
   | new r h hn hv h' => rw [h']; rfl
  rw [← hbq, qdr] at fb
  repeat' (first | refine vs_ ?_ | ((first | refine vr_ ?_ | fail) <;> (try simp only [c1, c2, go_sem, ↓reduceIte])) | ((first | (refine cs_ ?_ ?_ <;> intro hc) | refine cj_ ?_ | simp (disch := omega) only [encs_getN, qb] | refine qa fA fun _ => ?_ | refine qa fB fun _ => ?_ | refine qa fb fun _ => ?_ | refine qc fA ?_ | refine qc fB ?_ | refine qc fb ?_) <;> (try refine ev_ ?_)) | with_reducible exact ti_)
  all_goals rfl
 rw [if_neg c2] at hq hnx
 by_cases c3 : A.con = B.con ∧ A.args.length = B.args.length
 case neg =>
  rw [if_neg c3, if_neg (by decide)] at hq
  simp only [Option.some.injEq] at hq
  subst hq
  repeat' (first | refine vs_ ?_ | ((first | refine vr_ ?_ | fail) <;> (try simp only [c1, c2, go_sem, ↓reduceIte])) | ((first | (refine cs_ ?_ ?_ <;> intro hc) | refine cj_ ?_ | simp (disch := omega) only [encs_getN, qb] | refine qa fA fun _ => ?_ | refine qa fB fun _ => ?_ | refine qc fA ?_ | refine qc fB ?_) <;> (try refine ev_ ?_)) | with_reducible exact ti_)
  ·rfl
  ·rfl
  ·exact absurd ⟨by assumption, by omega⟩ c3
 rw [if_pos c3] at hq hnx
 rw [if_pos rfl] at hq
 have hI0 := hnx rfl
 dsimp only at hq hI0
 rw [List.append_nil] at hq hI0
 obtain ⟨c3, c4⟩ := c3
 have hzl : (A.args.zip B.args).length = A.args.length := by rw [List.length_zip]; omega
 have hal := qdz A.args
 have hsz := ((qr _).1 hAl).1
 rw [qd7] at hsz
 repeat' (first | refine vs_ ?_ | ((first | refine vr_ ?_ | fail) <;> (try simp only [c1, c2, go_sem, ↓reduceIte])) | ((first | (refine cs_ ?_ ?_ <;> intro hc) | refine cj_ ?_ | simp (disch := omega) only [encs_getN, qb] | refine qa fA fun _ => ?_ | refine qa fB fun _ => ?_ | refine qc fA ?_ | refine qc fB ?_) <;> (try refine ev_ ?_)) | with_reducible exact ti_)
 all_goals try (exfalso; first | omega | contradiction)
 refine qq (S := Nat × List Pr × Nat) (fun x => x.1 ≤ A.args.length ∧ x.2.2 ≤ m ∧ slvU x.2.2 x.2.1 ((A.args.zip B.args).drop x.1) = some q ∧ Inv V x.2.1 ((A.args.zip B.args).drop x.1)) (onSt A B) (fun x => A.args.length - x.1) ?_ ?_
 ·refine qh (0, s, m) [0, 1] ⟨Nat.zero_le _, Nat.le_refl _, hq, hI0⟩ rfl (by simp) ?_ ?_ ?_ <;> simp only [onSt] <;> (try refine ev_ ?_) <;> (try with_reducible exact ti_) <;> (try simp (disch := omega) only [qb, and_true, true_and])
 ·rintro ⟨i, r, k⟩ ⟨i1, i2, i3, i4⟩
  dsimp only at i1 i2 i3 i4
  unfold onSt
  dsimp only
  by_cases hlt : i < A.args.length
  ·have hg := qj hlt
   have hg' := qj (l := B.args) (i := i) (by omega)
   rw [qbd0 (by omega), qne c4 hlt] at i3 i4
   obtain ⟨k1, r1, j1, j2, j3, j4, j5⟩ := qoy i4 i3
   have fo := ih k1 (by omega) _ _ _ _ j3 j2
   rw [qdr] at fo
   by_cases hr : r1.2 = 0
   ·rw [hr] at fo
    obtain ⟨k2, g1, g2, g3⟩ := j5 hr
    repeat' (first | refine vs_ ?_ | ((first | refine vr_ ?_ | fail) <;> (try simp (disch := first | omega | (simp only [List.length_set, List.length_append, List.length_cons, List.length_nil]; done) | (simp only [List.length_set, List.length_append, List.length_cons, List.length_nil]; omega)) only [hg, hg', qb, go_sem, ↓reduceIte])) | ((first | simp (disch := omega) only [hg] | simp (disch := omega) only [hg'] | (refine cs_ ?_ ?_ <;> intro hc) | refine cj_ ?_ | simp (disch := omega) only [encs_getN, qb] | refine qa fo fun _ => ?_ | refine qc fo ?_) <;> (try refine ev_ ?_)) | with_reducible exact ti_)
    all_goals try (exfalso; first | omega | contradiction)
    refine qh (i + 1, r1.1, k2) [0, 1] ⟨⟨by dsimp only; omega, by dsimp only; omega, g2, g3⟩, by dsimp only; omega⟩ rfl (by simp) ?_ ?_ ?_ <;> simp only [onSt] <;> (try refine ev_ ?_) <;> (try with_reducible exact ti_) <;> (try simp (disch := omega) only [qb, and_true, true_and])
    rw [qv (by omega) (by omega), Int.natCast_add]; rfl
   ·have hd : decide (r1.2 = 0) = false := decide_eq_false hr
    obtain ⟨hqr, hr1⟩ := j4 hr
    repeat' (first | refine vs_ ?_ | ((first | refine vr_ ?_ | fail) <;> (try simp (disch := first | omega | (simp only [List.length_set, List.length_append, List.length_cons, List.length_nil]; done) | (simp only [List.length_set, List.length_append, List.length_cons, List.length_nil]; omega)) only [hg, hg', qb, hd, decide_false, go_sem, ↓reduceIte])) | ((first | simp (disch := omega) only [hg] | simp (disch := omega) only [hg'] | (refine cs_ ?_ ?_ <;> intro hc) | refine cj_ ?_ | simp (disch := omega) only [encs_getN, qb] | refine qa fo fun _ => ?_ | refine qc fo ?_) <;> (try refine ev_ ?_)) | with_reducible exact ti_)
    all_goals try (exfalso; first | omega | contradiction)
    rw [hqr, qdr, hr1]; rfl
  ·rw [List.drop_of_length_le (by omega), qdf] at i3
   simp only [Option.some.injEq] at i3
   subst i3
   repeat' (first | refine vs_ ?_ | ((first | refine vr_ ?_ | (refine cs_ ?_ ?_ <;> intro hc) | refine cj_ ?_ | simp (disch := omega) only [encs_getN, qb]) <;> (try refine ev_ ?_)) | with_reducible exact ti_)
   all_goals try (exfalso; first | omega | contradiction)
   rfl
theorem qri {a b : Ty} (h1 : szY a ≤ 20000) (h2 : dpY a ≤ 300) (h3 : szY b ≤ 20000) (h4 : dpY b ≤ 300) {q : List Pr × Int} (h : UniQ a b q) : ql Tryz.prog 10 [encY a, encY b] (rowA q) := by
 have L1 := qcc h1 h2
 have L2 := qcc h3 h4
 refine qf c0dr (by simp) (by simp only [go_sem]) (qh2 _ _) fun hw => ?_
 by_cases hl : qd a = true ∧ qd b = true
 ·rw [UniQ, if_pos hl] at h
  obtain ⟨n, hq⟩ := h
  rw [hl.1] at L1
  rw [hl.2] at L2
  have hO := que (by have := qr3 hl.1 hl.2; omega) n [] a b q (qm9 hl.1 hl.2) hq
  rw [qdr] at hO
  have hO : ql Tryz.prog 30 [.sl 4 [], encY a, encY b] _ := hO
  repeat' (first | refine vs_ ?_ | ((first | refine vr_ ?_ | refine qa L1 fun _ => ?_ | refine qa L2 fun _ => ?_ | refine qa hO fun _ => ?_ | (refine cs_ ?_ ?_ <;> intro hc) | refine cj_ ?_ | fail) <;> (try refine ev_ ?_)) | with_reducible exact ti_)
  all_goals rfl
 ·rw [UniQ, if_neg hl] at h
  subst h
  cases ha : qd a with
  | false =>
    rw [ha] at L1
    repeat' (first | refine vs_ ?_ | ((first | refine vr_ ?_ | refine qa L1 fun _ => ?_ | (refine cs_ ?_ ?_ <;> intro hc) | refine cj_ ?_ | fail) <;> (try refine ev_ ?_)) | with_reducible exact ti_)
    all_goals rfl
  | true =>
    have hb : qd b = false := by
     cases hb : qd b with
     | false => rfl
     | true => exact absurd ⟨ha, hb⟩ hl
    rw [ha] at L1
    rw [hb] at L2
    repeat' (first | refine vs_ ?_ | ((first | refine vr_ ?_ | refine qa L1 fun _ => ?_ | refine qa L2 fun _ => ?_ | (refine cs_ ?_ ?_ <;> intro hc) | refine cj_ ?_ | fail) <;> (try refine ev_ ?_)) | with_reducible exact ti_)
    all_goals rfl
theorem qkn {l : List Ty} (h : ∀ x ∈ l, szY x ≤ 20000 ∧ dpY x ≤ 300) : ql Tryz.prog 33 [.sl 3 (qk l)] (.bool (l.all qd)) := by
 refine qf c0ds (by simp) (by simp only [go_sem]) rfl fun hw => ?_
 have hl : l.length ≤ maxLen := by have := hw.1.1; rwa [qbc] at this
 repeat' (first | refine vs_ ?_ | ((first | refine vr_ ?_ | (refine cs_ ?_ ?_ <;> intro hc) | refine cj_ ?_ | simp (disch := omega) only [encs_getN, qb]) <;> (try refine ev_ ?_)) | with_reducible exact ti_)
 refine qq (S := Nat) (fun i => i ≤ l.length ∧ (l.take i).all qd = true) (fun i => (⟨[(0, .sl 3 (qk l)), (3, .int .i64 i)], []⟩, [])) (fun i => l.length - i) ?_ fun i hi => ?_
 ·refine qh 0 [] ⟨Nat.zero_le _, rfl⟩ rfl (by simp) ?_ ?_ ?_ <;> (try refine ev_ ?_) <;> (try with_reducible exact ti_) <;> (try simp (disch := omega) only [qb, and_true, true_and])
 ·obtain ⟨hi, ha⟩ := hi
  by_cases hlt : i < l.length
  ·have hg := qj hlt
   obtain ⟨m1, m2⟩ := h _ (qs hlt)
   have hL := qcc m1 m2
   have hnx : (l.take (i + 1)).all qd = qd (l.getD i Y0) := by
    have h1 : l.take (i + 1) = l.take i ++ [l.getD i Y0] := by
     rw [List.take_add_one, List.getD_eq_getElem?_getD, List.getElem?_eq_getElem hlt]; rfl
    rw [h1, List.all_append, ha]; simp
   cases hq : qd (l.getD i Y0) with
   | true =>
     rw [hq] at hL hnx
     repeat' (first | refine vs_ ?_ | ((first | refine vr_ ?_ | fail) <;> (try simp (disch := first | omega | (simp only [List.length_set, List.length_append, List.length_cons, List.length_nil]; done) | (simp only [List.length_set, List.length_append, List.length_cons, List.length_nil]; omega)) only [hg, qb, go_sem, ↓reduceIte])) | ((first | simp (disch := omega) only [hg] | (refine cs_ ?_ ?_ <;> intro hc) | refine cj_ ?_ | simp (disch := omega) only [encs_getN, qb] | refine qa hL fun _ => ?_) <;> (try refine ev_ ?_)) | with_reducible exact ti_)
     all_goals try (exfalso; omega)
     refine qh (i + 1) [] ⟨⟨by omega, hnx⟩, by omega⟩ rfl (by simp) ?_ ?_ ?_ <;> (try refine ev_ ?_) <;> (try with_reducible exact ti_) <;> (try simp (disch := omega) only [qb, and_true, true_and])
   | false =>
     rw [hq] at hL
     have hno : l.all qd = false := by
      cases ht : l.all qd with
      | false => rfl
      | true => rw [List.all_eq_true.1 ht _ (qs hlt)] at hq; cases hq
     rw [hno]
     repeat' (first | refine vs_ ?_ | ((first | refine vr_ ?_ | fail) <;> (try simp (disch := first | omega | (simp only [List.length_set, List.length_append, List.length_cons, List.length_nil]; done) | (simp only [List.length_set, List.length_append, List.length_cons, List.length_nil]; omega)) only [hg, qb, go_sem, ↓reduceIte])) | ((first | simp (disch := omega) only [hg] | (refine cs_ ?_ ?_ <;> intro hc) | refine cj_ ?_ | simp (disch := omega) only [encs_getN, qb] | refine qa hL fun _ => ?_) <;> (try refine ev_ ?_)) | with_reducible exact ti_)
     all_goals try (exfalso; omega)
  ·have hie : i = l.length := by omega
   subst hie
   rw [List.take_length] at ha
   rw [ha]
   repeat' (first | refine vs_ ?_ | ((first | refine vr_ ?_ | (refine cs_ ?_ ?_ <;> intro hc) | refine cj_ ?_ | simp (disch := omega) only [encs_getN, qb]) <;> (try refine ev_ ?_)) | with_reducible exact ti_)
   all_goals try (exfalso; omega)
def olSt (l m : List Ty) (x : Nat × List Pr × Nat) : AF × List Ent := (⟨[(0, .sl 3 (qk l)), (1, .sl 3 (qk m)), (6, if x.1 = 0 then .nils else .sl 4 (qt x.2.1)), (7, .int .i64 x.1)], []⟩, [])
set_option maxHeartbeats 2000000 in
theorem qyz {l m : List Ty} (h1 : ∀ x ∈ l, szY x ≤ 20000 ∧ dpY x ≤ 300) (h2 : ∀ x ∈ m, szY x ≤ 20000 ∧ dpY x ≤ 300) (hs : szYs l + szYs m ≤ 10000) {q : List Pr × Int} (h : AllQ l m q) : ql Tryz.prog 14 [.sl 3 (qk l), .sl 3 (qk m)] (rowA q) := by
 have L1 := qkn h1
 have L2 := qkn h2
 have hbl : l.length ≤ 10000 := by have := qdz l; omega
 refine qf c0dt (by simp) (by simp only [go_sem]) (qh2 _ _) fun hw => ?_
 by_cases hl : l.all qd = true
 case neg =>
  rw [AllQ, if_neg (fun h => hl h.1)] at h
  subst h
  rw [Bool.not_eq_true] at hl
  rw [hl] at L1
  repeat' (first | refine vs_ ?_ | ((first | refine vr_ ?_ | refine qa L1 fun _ => ?_ | refine qc L1 ?_ | (refine cs_ ?_ ?_ <;> intro hc) | refine cj_ ?_ | simp (disch := omega) only [encs_getN, qb]) <;> (try refine ev_ ?_)) | with_reducible exact ti_)
  all_goals rfl
 rw [hl] at L1
 by_cases hm : m.all qd = true
 case neg =>
  rw [AllQ, if_neg (fun h => hm h.2)] at h
  subst h
  rw [Bool.not_eq_true] at hm
  rw [hm] at L2
  repeat' (first | refine vs_ ?_ | ((first | refine vr_ ?_ | refine qa L1 fun _ => ?_ | refine qa L2 fun _ => ?_ | refine qc L1 ?_ | refine qc L2 ?_ | (refine cs_ ?_ ?_ <;> intro hc) | refine cj_ ?_ | simp (disch := omega) only [encs_getN, qb]) <;> (try refine ev_ ?_)) | with_reducible exact ti_)
  all_goals rfl
 rw [hm] at L2
 rw [AllQ, if_pos ⟨hl, hm⟩] at h
 by_cases hlen : l.length = m.length
 case neg =>
  rw [if_neg hlen] at h
  subst h
  repeat' (first | refine vs_ ?_ | ((first | refine vr_ ?_ | refine qa L1 fun _ => ?_ | refine qa L2 fun _ => ?_ | refine qc L1 ?_ | refine qc L2 ?_ | (refine cs_ ?_ ?_ <;> intro hc) | refine cj_ ?_ | simp (disch := omega) only [encs_getN, qb]) <;> (try refine ev_ ?_)) | with_reducible exact ti_)
  all_goals first | (exfalso; omega) | rfl
 rw [if_pos hlen] at h
 obtain ⟨n, hq⟩ := h
 have hI := qno hl hm
 have hV : (qbp l ++ qbp m).length ≤ 40000 := by have := qdx l; have := qdx m; rw [List.length_append]; omega
 have hzl : (l.zip m).length = l.length := by rw [List.length_zip]; omega
 repeat' (first | refine vs_ ?_ | ((first | refine vr_ ?_ | refine qa L1 fun _ => ?_ | refine qa L2 fun _ => ?_ | refine qc L1 ?_ | refine qc L2 ?_ | (refine cs_ ?_ ?_ <;> intro hc) | refine cj_ ?_ | simp (disch := omega) only [encs_getN, qb]) <;> (try refine ev_ ?_)) | with_reducible exact ti_)
 all_goals try (exfalso; omega)
 refine qq (S := Nat × List Pr × Nat) (fun x => x.1 ≤ l.length ∧ (x.1 = 0 → x.2.1 = []) ∧ slvU x.2.2 x.2.1 ((l.zip m).drop x.1) = some q ∧ Inv (qbp l ++ qbp m) x.2.1 ((l.zip m).drop x.1)) (olSt l m) (fun x => l.length - x.1) ?_ ?_
 ·refine qh (0, [], n) [] ⟨Nat.zero_le _, fun _ => rfl, hq, hI⟩ rfl (by simp) ?_ ?_ ?_ <;> simp only [olSt] <;> (try refine ev_ ?_) <;> (try with_reducible exact ti_) <;> (try simp (disch := omega) only [qb, and_true, true_and])
 ·rintro ⟨i, r, k⟩ ⟨i1, i2, i3, i4⟩
  dsimp only at i1 i2 i3 i4
  unfold olSt
  dsimp only
  by_cases hlt : i < l.length
  ·have hg := qj hlt
   have hg' := qj (l := m) (i := i) (by omega)
   rw [qbd0 (by omega), qne hlen hlt] at i3 i4
   obtain ⟨k1, r1, j1, j2, j3, j4, j5⟩ := qoy i4 i3
   have fo := que hV k1 _ _ _ _ j3 j2
   rw [qdr] at fo
   have key : (r1.2 = 0 → ∃ k2, slvU k2 r1.1 ((l.zip m).drop (i + 1)) = some q ∧ Inv (qbp l ++ qbp m) r1.1 ((l.zip m).drop (i + 1))) := fun hr => by
    obtain ⟨k2, _, g2, g3⟩ := j5 hr
    exact ⟨k2, g2, g3⟩
   by_cases hi0 : i = 0
   ·have hr0 := i2 hi0
    subst hi0
    subst hr0
    have fo : ql Tryz.prog 30 [.sl 4 [], encY (l.getD 0 Y0), encY (m.getD 0 Y0)] _ := fo
    by_cases hr : r1.2 = 0
    ·rw [hr] at fo
     obtain ⟨k2, g2, g3⟩ := key hr
     repeat' (first | refine vs_ ?_ | ((first | refine vr_ ?_ | fail) <;> (try simp (disch := first | omega | (simp only [List.length_set, List.length_append, List.length_cons, List.length_nil]; done) | (simp only [List.length_set, List.length_append, List.length_cons, List.length_nil]; omega)) only [hg, hg', qb, go_sem, ↓reduceIte])) | ((first | simp (disch := omega) only [hg] | simp (disch := omega) only [hg'] | (refine cs_ ?_ ?_ <;> intro hc) | refine cj_ ?_ | simp (disch := omega) only [encs_getN, qb] | refine qa fo fun _ => ?_ | refine qc fo ?_) <;> (try refine ev_ ?_)) | with_reducible exact ti_)
     all_goals try (exfalso; first | omega | contradiction)
     refine qh (0 + 1, r1.1, k2) [] ⟨⟨by dsimp only; omega, fun h => absurd h (Nat.succ_ne_zero _), g2, g3⟩, by dsimp only; omega⟩ rfl (by simp) ?_ ?_ ?_ <;> simp only [olSt] <;> (try refine ev_ ?_) <;> (try with_reducible exact ti_) <;> (try simp (disch := omega) only [qb, and_true, true_and])
     rfl
    ·have hd : decide (r1.2 = 0) = false := decide_eq_false hr
     obtain ⟨hqr, hr1⟩ := j4 hr
     repeat' (first | refine vs_ ?_ | ((first | refine vr_ ?_ | fail) <;> (try simp (disch := first | omega | (simp only [List.length_set, List.length_append, List.length_cons, List.length_nil]; done) | (simp only [List.length_set, List.length_append, List.length_cons, List.length_nil]; omega)) only [hg, hg', qb, hd, decide_false, go_sem, ↓reduceIte])) | ((first | simp (disch := omega) only [hg] | simp (disch := omega) only [hg'] | (refine cs_ ?_ ?_ <;> intro hc) | refine cj_ ?_ | simp (disch := omega) only [encs_getN, qb] | refine qa fo fun _ => ?_ | refine qc fo ?_) <;> (try refine ev_ ?_)) | with_reducible exact ti_)
     all_goals try (exfalso; first | omega | contradiction)
     rw [hqr, qdr, hr1]; rfl
   ·simp only [hi0, if_false]
    by_cases hr : r1.2 = 0
    ·rw [hr] at fo
     obtain ⟨k2, g2, g3⟩ := key hr
     repeat' (first | refine vs_ ?_ | ((first | refine vr_ ?_ | fail) <;> (try simp (disch := first | omega | (simp only [List.length_set, List.length_append, List.length_cons, List.length_nil]; done) | (simp only [List.length_set, List.length_append, List.length_cons, List.length_nil]; omega)) only [hg, hg', qb, go_sem, ↓reduceIte])) | ((first | simp (disch := omega) only [hg] | simp (disch := omega) only [hg'] | (refine cs_ ?_ ?_ <;> intro hc) | refine cj_ ?_ | simp (disch := omega) only [encs_getN, qb] | refine qa fo fun _ => ?_ | refine qc fo ?_) <;> (try refine ev_ ?_)) | with_reducible exact ti_)
     all_goals try (exfalso; first | omega | contradiction)
     refine qh (i + 1, r1.1, k2) [] ⟨⟨by dsimp only; omega, fun h => absurd h (Nat.succ_ne_zero _), g2, g3⟩, by dsimp only; omega⟩ rfl (by simp) ?_ ?_ ?_ <;> simp only [olSt] <;> (try refine ev_ ?_) <;> (try with_reducible exact ti_) <;> (try simp (disch := omega) only [qb, and_true, true_and])
     rw [qv (by omega) (by omega), Int.natCast_add]; rfl
    ·have hd : decide (r1.2 = 0) = false := decide_eq_false hr
     obtain ⟨hqr, hr1⟩ := j4 hr
     repeat' (first | refine vs_ ?_ | ((first | refine vr_ ?_ | fail) <;> (try simp (disch := first | omega | (simp only [List.length_set, List.length_append, List.length_cons, List.length_nil]; done) | (simp only [List.length_set, List.length_append, List.length_cons, List.length_nil]; omega)) only [hg, hg', qb, hd, decide_false, go_sem, ↓reduceIte])) | ((first | simp (disch := omega) only [hg] | simp (disch := omega) only [hg'] | (refine cs_ ?_ ?_ <;> intro hc) | refine cj_ ?_ | simp (disch := omega) only [encs_getN, qb] | refine qa fo fun _ => ?_ | refine qc fo ?_) <;> (try refine ev_ ?_)) | with_reducible exact ti_)
     all_goals try (exfalso; first | omega | contradiction)
     rw [hqr, qdr, hr1]; rfl
  ·rw [List.drop_of_length_le (by omega), qdf] at i3
   simp only [Option.some.injEq] at i3
   subst i3
   by_cases hi0 : i = 0
   ·have hr0 := i2 hi0
    subst hi0
    subst hr0
    repeat' (first | refine vs_ ?_ | ((first | refine vr_ ?_ | (refine cs_ ?_ ?_ <;> intro hc) | refine cj_ ?_ | simp (disch := omega) only [encs_getN, qb]) <;> (try refine ev_ ?_)) | with_reducible exact ti_)
    all_goals try (exfalso; first | omega | contradiction)
    all_goals rfl
   ·simp only [hi0, if_false]
    repeat' (first | refine vs_ ?_ | ((first | refine vr_ ?_ | (refine cs_ ?_ ?_ <;> intro hc) | refine cj_ ?_ | simp (disch := omega) only [encs_getN, qb]) <;> (try refine ev_ ?_)) | with_reducible exact ti_)
    all_goals try (exfalso; first | omega | contradiction)
    all_goals rfl
theorem qbfm (v : Int) : ql Tryz.prog 54 [.int .i64 v] (encY (.mk [] v [])) := by
 refine qf c0du (by simp) (by simp only [go_sem]) (qz 0 _) fun hw => ?_
 repeat' (first | refine vs_ ?_ | ((first | refine vr_ ?_ | (refine cs_ ?_ ?_ <;> intro hc) | refine cj_ ?_ | fail) <;> (try refine ev_ ?_)) | with_reducible exact ti_)
 all_goals (simp only [encY, qk])
set_option maxHeartbeats 1000000 in
theorem qg8 {t : Ty} (h1 : szY t ≤ 20000) (h2 : dpY t ≤ 300) {k : Int} (hk0 : 0 ≤ k) (hk1 : k ≤ 1) : ql Tryz.prog 35 [encY t, .int .i64 k] (encY (rnU t k)) := by
 refine qf c0dv (by simp) (by simp only [go_sem]) (qz 0 _) fun hw => ?_
 have hV := qwi t (by omega)
 have hvl := qse t h1
 rw [rnU]
 generalize qcs [] (varY t) = vs at hV hvl ⊢
 repeat' (first | refine vs_ ?_ | ((first | refine vr_ ?_ | refine qa hV fun _ => ?_ | refine qc hV ?_ | (refine cs_ ?_ ?_ <;> intro hc) | refine cj_ ?_ | simp (disch := omega) only [encs_getN, qb]) <;> (try refine ev_ ?_)) | with_reducible exact ti_)
 refine qq (S := Nat) (fun i => i ≤ vs.length) (fun i => (⟨[(1, .int .i64 k), (2, .ptr 0 0), (4, .ptr 1 0), (5, .sl 1 (ints vs)), (6, if i = 0 then .nils else .sl 4 (qt (rnS (vs.take i) k []))), (7, .int .i64 i)], []⟩, [.blk (yc t), .blk [.str [], .int .i64 0, .nils]])) (fun i => vs.length - i) ?_ fun i hi => ?_
 ·refine qh 0 [0, 1] (Nat.zero_le _) rfl (by simp) ?_ ?_ ?_ <;> (try refine ev_ ?_) <;> (try with_reducible exact ti_) <;> (try simp (disch := omega) only [qb, and_true, true_and])
 ·obtain ⟨ho, hlen⟩ := qtm (vs.take i) k qck
  rw [List.length_take, Nat.min_eq_left hi, List.length_nil, Nat.zero_add] at hlen
  by_cases hlt : i < vs.length
  ·have hg := qd4 hlt
   obtain ⟨q1, q2⟩ := qyw (k + 2 * i)
   have hS := qps (s := rnS (vs.take i) k []) (v := vs.getD i 0) (by omega) q1 q2
   have hR : rowA (setR (rnS (vs.take i) k []) (vs.getD i 0) (.mk [] (k + 2 * i) [])) = .tup [.sl 4 (qt (rnS (vs.take (i + 1)) k [])), .int .i64 (setR (rnS (vs.take i) k []) (vs.getD i 0) (.mk [] (k + 2 * i) [])).2] := by rw [qtt hlt]; rfl
   rw [hR] at hS
   have hT := qbfm (k + 2 * i)
   have hw2 : IntKind.i64.wrap (2 * (i : Int)) = 2 * i := qv (by omega) (by omega)
   have hw3 : IntKind.i64.wrap (k + 2 * (i : Int)) = k + 2 * i := qv (by omega) (by omega)
   by_cases hi0 : i = 0
   ·subst hi0
    have hS : ql Tryz.prog 53 [.sl 4 [], .int .i64 (vs.getD 0 0), encY (.mk [] (k + 2 * (0 : Nat)) [])] _ := hS
    have hw2 : IntKind.i64.wrap (2 * 0) = 0 := by rfl
    have hw3 : IntKind.i64.wrap (k + 0) = k := by rw [Int.add_zero]; exact qv (by omega) (by omega)
    have e0 : k + 2 * ((0 : Nat) : Int) = k := by omega
    rw [e0] at hS hT
    repeat' (first | refine vs_ ?_ | ((first | refine vr_ ?_ | fail) <;> (try simp (disch := first | omega | (simp only [List.length_set, List.length_append, List.length_cons, List.length_nil]; done) | (simp only [List.length_set, List.length_append, List.length_cons, List.length_nil]; omega)) only [hg, hw2, hw3, qb, go_sem, ↓reduceIte])) | ((first | simp (disch := omega) only [hg] | simp (disch := omega) only [hw2] | simp (disch := omega) only [hw3] | (refine cs_ ?_ ?_ <;> intro hc) | refine cj_ ?_ | simp (disch := omega) only [encs_getN, qb] | refine qa hT fun _ => ?_ | refine qa hS fun _ => ?_ | refine qc hT ?_ | refine qc hS ?_) <;> (try refine ev_ ?_)) | with_reducible exact ti_)
    all_goals try (exfalso; omega)
    refine qh (0 + 1) [0, 1] ⟨by omega, by omega⟩ rfl (by simp) ?_ ?_ ?_ <;> (try refine ev_ ?_) <;> (try with_reducible exact ti_) <;> (try simp (disch := omega) only [qb, and_true, true_and])
    rfl
   ·simp only [hi0, if_false]
    repeat' (first | refine vs_ ?_ | ((first | refine vr_ ?_ | fail) <;> (try simp (disch := first | omega | (simp only [List.length_set, List.length_append, List.length_cons, List.length_nil]; done) | (simp only [List.length_set, List.length_append, List.length_cons, List.length_nil]; omega)) only [hg, hw2, hw3, qb, go_sem, ↓reduceIte])) | ((first | simp (disch := omega) only [hg] | simp (disch := omega) only [hw2] | simp (disch := omega) only [hw3] | (refine cs_ ?_ ?_ <;> intro hc) | refine cj_ ?_ | simp (disch := omega) only [encs_getN, qb] | refine qa hT fun _ => ?_ | refine qa hS fun _ => ?_ | refine qc hT ?_ | refine qc hS ?_) <;> (try refine ev_ ?_)) | with_reducible exact ti_)
    all_goals try (exfalso; omega)
    refine qh (i + 1) [0, 1] ⟨by omega, by omega⟩ rfl (by simp) ?_ ?_ ?_ <;> (try refine ev_ ?_) <;> (try with_reducible exact ti_) <;> (try simp (disch := omega) only [qb, and_true, true_and])
    rw [qv (by omega) (by omega), Int.natCast_add]; rfl
  ·have hie : i = vs.length := by omega
   subst hie
   rw [List.take_length] at ho hlen ⊢
   have hA := qel ho h1 h2
   have hT : typA (appR (rnS vs k []) t) = .tup [encY (appR (rnS vs k []) t).1, .int .i64 (appR (rnS vs k []) t).2] := rfl
   rw [hT] at hA
   by_cases hi0 : vs = []
   ·subst hi0
    have hA : ql Tryz.prog 49 [.sl 4 [], encY t] _ := hA
    repeat' (first | refine vs_ ?_ | ((first | refine vr_ ?_ | refine qa hA fun _ => ?_ | refine qc hA ?_ | (refine cs_ ?_ ?_ <;> intro hc) | refine cj_ ?_ | simp (disch := omega) only [encs_getN, qb]) <;> (try refine ev_ ?_)) | with_reducible exact ti_)
    all_goals try (exfalso; omega)
   ·have hne : ¬ vs.length = 0 := fun h => hi0 (List.length_eq_zero_iff.1 h)
    simp only [hne, if_false]
    repeat' (first | refine vs_ ?_ | ((first | refine vr_ ?_ | refine qa hA fun _ => ?_ | refine qc hA ?_ | (refine cs_ ?_ ?_ <;> intro hc) | refine cj_ ?_ | simp (disch := omega) only [encs_getN, qb]) <;> (try refine ev_ ?_)) | with_reducible exact ti_)
    all_goals try (exfalso; omega)
set_option maxHeartbeats 1000000 in
theorem qku {a b : Ty} (h1 : szY a ≤ 20000) (h2 : dpY a ≤ 300) (h3 : szY b ≤ 20000) (h4 : dpY b ≤ 300) {c : Bool} (h : AprQ a b c) : ql Tryz.prog 16 [encY a, encY b] (.bool c) := by
 refine qf c0dw (by simp) (by simp only [go_sem]) rfl fun hw => ?_
 have L1 := qcc h1 h2
 have L2 := qcc h3 h4
 by_cases hl : qd a = true ∧ qd b = true
 case neg =>
  rw [AprQ, if_neg hl] at h
  subst h
  cases ha : qd a with
  | false =>
    rw [ha] at L1
    repeat' (first | refine vs_ ?_ | ((first | refine vr_ ?_ | refine qa L1 fun _ => ?_ | refine qc L1 ?_ | (refine cs_ ?_ ?_ <;> intro hc) | refine cj_ ?_ | fail) <;> (try refine ev_ ?_)) | with_reducible exact ti_)
  | true =>
    have hb : qd b = false := by
     cases hb : qd b with
     | false => rfl
     | true => exact absurd ⟨ha, hb⟩ hl
    rw [ha] at L1
    rw [hb] at L2
    repeat' (first | refine vs_ ?_ | ((first | refine vr_ ?_ | refine qa L1 fun _ => ?_ | refine qa L2 fun _ => ?_ | refine qc L1 ?_ | refine qc L2 ?_ | (refine cs_ ?_ ?_ <;> intro hc) | refine cj_ ?_ | fail) <;> (try refine ev_ ?_)) | with_reducible exact ti_)
 rw [AprQ, if_pos hl] at h
 obtain ⟨q, hq, rfl⟩ := h
 rw [hl.1] at L1
 rw [hl.2] at L2
 have r1 := qg8 (t := a) h1 h2 (k := 0) (by decide) (by decide)
 have r2 := qg8 (t := b) h3 h4 (k := 1) (by decide) (by decide)
 obtain ⟨s1, s2⟩ := qm7 a 0
 obtain ⟨s3, s4⟩ := qm7 b 1
 have hU := qri s1 s2 s3 s4 hq
 rw [qdr] at hU
 repeat' (first | refine vs_ ?_ | ((first | refine vr_ ?_ | refine qa L1 fun _ => ?_ | refine qa L2 fun _ => ?_ | refine qa r1 fun _ => ?_ | refine qa r2 fun _ => ?_ | refine qa hU fun _ => ?_ | refine qc L1 ?_ | refine qc L2 ?_ | refine qc r1 ?_ | refine qc r2 ?_ | refine qc hU ?_ | (refine cs_ ?_ ?_ <;> intro hc) | refine cj_ ?_ | fail) <;> (try refine ev_ ?_)) | with_reducible exact ti_)
end Go.Proofs.YtlahgbhhejkgbaaGreat
