/- Texts of this proof, joined. -/
import Derived.Test.YtfjbmjplnmaclaaGreatQbi

/- declarations: the reference: constructors, data -/
set_option maxRecDepth 4000
namespace Go.Proofs.YtfjbmjplnmaclaaGreat
open Go Go.RowKit Go.V
set_option linter.unusedVariables false
set_option linter.unusedSimpArgs false

theorem qig (c : K) : qz Tryz.prog 121 [refC c] (.bool (begT c)) := by
 refine qj c0h (by simp) (by simp only [go_sem]) rfl fun hw => ?_
 repeat' (first | refine vs_ ?_ | ((first | refine vr_ ?_ | refine qa (ql c) fun _ => ?_ | refine qa (qcw c _) fun _ => ?_ | (refine cs_ ?_ ?_ <;> intro hc) | refine cj_ ?_ | fail) <;> (try refine ev_ ?_)) | with_reducible exact ti_)
 all_goals (have := @qwd c; unfold begT at *; simp_all)
theorem qe8 (c : K) (hg : c.good) : qz Tryz.prog 81 [refC c] (.tup [refC (qb7 c).1, enc (qb7 c).2]) := qe6 (qcl _) (qp5 (rest c + 2)) c hg (by have := qgo c; omega)
theorem qtl (c : K) (hg : c.good) : qz Tryz.prog 45 [refC c] (.tup [refC (qfl c).1, enc (qfl c).2]) := qtu (qbi2 (rest c + 2)) c hg (by have := qgo c; omega)
theorem q0i (c : K) (hg : c.good) : qz Tryz.prog 84 [refC c] (.tup [refC (qfc c).1, .sl 5 (encs (qfc c).2)]) := qqr (qcl _) (qp5 (rest c + 2)) c hg (by have := qgo c; omega)
def qxb (t : T) (x : Nat × K × List N) : AF × List Ent :=
 (⟨[(1, .ptr 0 0), (2, .ptr 1 0), (3, .ptr 2 0), (6, .ptr 3 0)], []⟩,
   .blk (refC x.2.1).cells :: zEC :: zEN :: .blk [.int .i64 34, .int .i64 t.pos, .int .i64 0, .str t.text, accV 4 (encs x.2.2)] :: accE 5 (encs x.2.2))
theorem qban (c : K) (hg : c.good) : qz Tryz.prog 83 [refC c] (.tup [refC (qf8 c).1, enc (qf8 c).2]) := by
 refine qj c0i (by simp) (by simp only [go_sem]) (by simp only [go_sem]) fun hw => ?_
 have g1 : (qn c 2).1.good := (qbf c 2).1 hg
 unfold qf8 qvd
 generalize htg : qfb begT (em (qn c 2).1 + 1) (qn c 2).1 [] = tg
 repeat' (first | refine vs_ ?_ | ((first | refine vr_ ?_ | refine qa (qbe c 2) fun _ => ?_ | refine qb (qbe c 2) ?_ | (refine cs_ ?_ ?_ <;> intro hc) | refine cj_ ?_ | fail) <;> (try refine ev_ ?_)) | with_reducible exact ti_)
 refine qbm (S := Nat × K × List N) (fun x => x.2.1.good ∧ qfb begT x.1 x.2.1 x.2.2 = tg ∧ em x.2.1 < x.1 ∧ x.2.2.length + em x.2.1 ≤ 1048578) (qxb (qev c 2)) (fun x => em x.2.1) ?_ ?_
 ·refine q8 (em (qn c 2).1 + 1, (qn c 2).1, []) [0, 1, 2, 4] ⟨g1, htg, Nat.lt_succ_self _, ?_⟩ rfl (by simp) ?_ ?_ ?_
  ·have h9 := g1.rest
   have h8 := qgo (qn c 2).1
   unfold rest at h8
   simp only [List.length_nil]
   omega
  all_goals simp only [qxb, zEC, zEN, encs, qr, qt]
  all_goals (refine ev_ ?_; (try with_reducible exact ti_))
 ·rintro ⟨fu, d, acc⟩ ⟨i1, i3, i4, i5⟩
  simp only at i1 i3 i4 i5
  unfold qxb zEC zEN
  obtain ⟨fu, rfl⟩ : ∃ k, fu = k + 1 := ⟨fu - 1, by omega⟩
  rw [qfb] at i3
  have hcap : qdq (acc.length + 1) 64 := capN (by omega)
  have j1 : (qb7 d).1.good := (qea d).1 i1
  have j2 : em (qb7 d).1 ≤ em d := (qea d).em
  by_cases h0 : acc = []
  ·subst h0
   simp only [encs, qr, qt]
   repeat' (first | refine vs_ ?_ | ((first | refine vr_ ?_ | refine qa (qig _) fun _ => ?_ | refine qa (qe8 _ i1) fun _ => ?_ | refine qb (qig _) ?_ | refine qb (qe8 _ i1) ?_ | (refine cs_ ?_ ?_ <;> intro hc) | refine cj_ ?_ | fail) <;> (try refine ev_ ?_)) | with_reducible exact ti_)
   ·have hb : begT d = true := by assumption
    rw [if_pos hb] at i3
    have hlt := qhk hb
    refine q8 (fu, (qb7 d).1, [] ++ [(qb7 d).2]) [0, 1, 2, 3, 6] ⟨⟨j1, i3, by simp only; omega, ?_⟩, by simp only; omega⟩ rfl (by simp) ?_ ?_ ?_
    ·simp only [List.length_append, List.length_cons, List.length_nil]; omega
    all_goals simp only [qxb, zEC, zEN, ← qe, qbs, qbr, List.nil_append, encs, qby, qbx]
    all_goals (refine ev_ ?_; (try with_reducible exact ti_))
   ·have hb : begT d = false := by assumption
    rw [if_neg (by rw [hb]; simp)] at i3
    subst i3
    rfl
  ·have hne := q9 h0
   simp only [qbd hne, qbc hne, qx]
   repeat' (first | refine vs_ ?_ | ((first | refine vr_ ?_ | refine qa (qig _) fun _ => ?_ | refine qa (qe8 _ i1) fun _ => ?_ | refine qb (qig _) ?_ | refine qb (qe8 _ i1) ?_ | (refine cs_ ?_ ?_ <;> intro hc) | refine cj_ ?_ | fail) <;> (try refine ev_ ?_)) | with_reducible exact ti_)
   ·have hb : begT d = true := by assumption
    rw [if_pos hb] at i3
    have hlt := qhk hb
    refine q8 (fu, (qb7 d).1, acc ++ [(qb7 d).2]) [0, 1, 2, 3, 7] ⟨⟨j1, i3, by simp only; omega, ?_⟩, by simp only; omega⟩ rfl (by simp) ?_ ?_ ?_
    ·simp only [List.length_append, List.length_cons, List.length_nil]; omega
    all_goals simp only [qxb, zEC, zEN, ← qe, qbs, qbr, List.nil_append, encs, qby, qbx]
    all_goals (refine ev_ ?_; (try with_reducible exact ti_))
    rw [qe, qo, qbb]; exact ⟨rfl, rfl⟩
   ·have hb : begT d = false := by assumption
    rw [if_neg (by rw [hb]; simp)] at i3
    subst i3
    rfl
set_option maxRecDepth 4000

def qzq (p : Int) (t : T) (x : Nat × K × List N) : AF × List Ent :=
 (⟨[(2, .ptr 0 0), (4, .ptr 1 0), (5, .ptr 2 0), (8, .ptr 3 0)], []⟩,
   .blk (refC x.2.1).cells :: zEC :: zEN :: .blk [.int .i64 33, .int .i64 p, .int .i64 x.2.2.length, .str t.text, accV 4 (encs x.2.2)] :: accE 5 (encs x.2.2))
def qog (p : Int) (t : T) (k : Nat) (x : Bool × Nat × K × List N) : AF × List Ent :=
 (⟨[(2, .ptr 0 0), (4, .ptr 1 0), (5, .ptr 2 0), (8, .ptr 3 0), (11, .bool x.1)], []⟩,
   .blk (refC x.2.2.1).cells :: zEC :: zEN :: .blk [.int .i64 33, .int .i64 p, .int .i64 k, .str t.text, accV 4 (encs x.2.2.2)] :: accE 5 (encs x.2.2.2))
theorem q52 (p : Int) (c : K) (hg : c.good) : qz Tryz.prog 43 [refC c, .int .i64 p] (.tup [refC (qjo p c).1, enc (qjo p c).2]) := by
 refine qj c0g (by simp) (by simp only [go_sem]) (by simp only [go_sem]) fun hw => ?_
 have g1 : (qn c 2).1.good := (qbf c 2).1 hg
 unfold qjo
 generalize htg : qfb qd8 (em (qn c 2).1 + 1) (qn c 2).1 [] = tg
 repeat' (first | refine vs_ ?_ | ((first | refine vr_ ?_ | refine qa (qbe c 2) fun _ => ?_ | refine qb (qbe c 2) ?_ | (refine cs_ ?_ ?_ <;> intro hc) | refine cj_ ?_ | simp (disch := omega) only [qh, qs]) <;> (try refine ev_ ?_)) | with_reducible exact ti_)
 refine qbm (S := Nat × K × List N) (fun x => x.2.1.good ∧ qfb qd8 x.1 x.2.1 x.2.2 = tg ∧ em x.2.1 < x.1 ∧ x.2.2.length + em x.2.1 ≤ 1048578) (qzq p (qev c 2)) (fun x => em x.2.1) ?_ ?_
 ·refine q8 (em (qn c 2).1 + 1, (qn c 2).1, []) [0, 1, 2, 4] ⟨g1, htg, Nat.lt_succ_self _, ?_⟩ rfl (by simp) ?_ ?_ ?_
  ·have h9 := g1.rest
   have h8 := qgo (qn c 2).1
   unfold rest at h8
   simp only [List.length_nil]
   omega
  all_goals simp only [qzq, zEC, zEN, encs, qr, qt, List.length_nil]
  all_goals (refine ev_ ?_; (try with_reducible exact ti_))
 ·rintro ⟨fu, d, acc⟩ ⟨i1, i3, i4, i5⟩
  simp only at i1 i3 i4 i5
  unfold qzq zEC zEN
  obtain ⟨fu, rfl⟩ : ∃ k, fu = k + 1 := ⟨fu - 1, by omega⟩
  rw [qfb] at i3
  have hcap : qdq (acc.length + 1) 64 := capN (by omega)
  have hml : acc.length + 1 < maxLen := by unfold maxLen; omega
  by_cases hb : qd8 d = true
  ·rw [if_pos hb] at i3
   have hk : (qq d).kind = 1 := by simpa [qd8] using hb
   have he : d.err = 0 := (qe5 (by rw [hk]; decide)).1
   have j1 : (qb7 d).1.good := (qea d).1 i1
   have j2 : em (qb7 d).1 ≤ em d := (qea d).em
   have hlt := qhk (qnr hb)
   by_cases h0 : acc = []
   ·subst h0
    simp only [encs, qr, qt, List.length_nil]
    repeat' (first | refine vs_ ?_ | ((first | refine vr_ ?_ | fail) <;> (try simp only [hk, Int.reduceEq, decide_true, go_sem, ↓reduceIte])) | ((first | (refine cs_ ?_ ?_ <;> intro hc) | refine cj_ ?_ | simp (disch := omega) only [qh, qs] | refine qa (ql _) fun _ => ?_ | refine qa (qe8 _ i1) fun _ => ?_ | refine qb (ql _) ?_ | refine qb (qe8 _ i1) ?_) <;> (try refine ev_ ?_)) | with_reducible exact ti_)
    all_goals first | (exfalso; simp_all; done) | skip
    refine q8 (fu, (qb7 d).1, [] ++ [(qb7 d).2]) [0, 1, 2, 3, 6] ⟨⟨j1, i3, by simp only; omega, ?_⟩, by simp only; omega⟩ rfl (by simp) ?_ ?_ ?_
    ·simp only [List.length_append, List.length_cons, List.length_nil] at *; omega
    all_goals simp only [qzq, zEC, zEN, ← qe, qbs, qbr, List.nil_append, encs, qby, qbx, List.length_append, List.length_cons, List.length_nil]
    all_goals (refine ev_ ?_; (try with_reducible exact ti_))
    all_goals first | rfl | (rw [show IntKind.i64.wrap (0 + 1) = 1 by decide])
   ·have hne := q9 h0
    simp only [qbd hne, qbc hne, qx]
    repeat' (first | refine vs_ ?_ | ((first | refine vr_ ?_ | fail) <;> (try simp only [hk, Int.reduceEq, decide_true, go_sem, ↓reduceIte])) | ((first | (refine cs_ ?_ ?_ <;> intro hc) | refine cj_ ?_ | simp (disch := omega) only [qh, qs] | refine qa (ql _) fun _ => ?_ | refine qa (qe8 _ i1) fun _ => ?_ | refine qb (ql _) ?_ | refine qb (qe8 _ i1) ?_) <;> (try refine ev_ ?_)) | with_reducible exact ti_)
    all_goals first | (exfalso; simp_all; done) | skip
    refine q8 (fu, (qb7 d).1, acc ++ [(qb7 d).2]) [0, 1, 2, 3, 7] ⟨⟨j1, i3, by simp only; omega, ?_⟩, by simp only; omega⟩ rfl (by simp) ?_ ?_ ?_
    ·simp only [List.length_append, List.length_cons, List.length_nil] at *; omega
    all_goals simp only [qzq, zEC, zEN, ← qe, qbs, qbr, List.nil_append, encs, qby, qbx, List.length_append, List.length_cons, List.length_nil]
    all_goals (refine ev_ ?_; (try with_reducible exact ti_))
    all_goals (rw [qe, qo, qbb]; exact ⟨rfl, rfl⟩)
  ·rw [if_neg hb] at i3
   subst i3
   have hk : ¬ (qq d).kind = 1 := by simpa [qd8] using hb
   have g2 : (qi d [61]).1.good := (qd d _).1 i1
   have e2 := (qd d [61]).em
   unfold qv6 qwg
   simp only
   have h7 := qgo (qi d [61]).1
   have h6 := g2.rest
   unfold rest at h7
   generalize htg2 : qhg (em (qi d [61]).1 + 2) (qi d [61]).1 acc = tg2
   repeat' (first | refine vs_ ?_ | ((first | refine vr_ ?_ | fail) <;> (try simp only [hk, decide_false, go_sem, ↓reduceIte])) | ((first | (refine cs_ ?_ ?_ <;> intro hc) | refine cj_ ?_ | simp (disch := omega) only [qh, qs] | refine qa (ql _) fun _ => ?_ | refine qa (qba _ _) fun _ => ?_ | refine qb (ql _) ?_ | refine qb (qba _ _) ?_) <;> (try refine ev_ ?_)) | with_reducible exact ti_)
   all_goals (
    refine qbm (S := Bool × Nat × K × List N) (fun x => x.2.2.1.good ∧ (x.1 = true → qhg x.2.1 x.2.2.1 x.2.2.2 = tg2 ∧ em x.2.2.1 < x.2.1) ∧ (x.1 = false → tg2 = (x.2.2.1, x.2.2.2)) ∧ x.2.2.2.length + (if x.1 = true then em x.2.2.1 + 1 else 0) ≤ 2097158) (qog p (qev c 2) acc.length) (fun x => if x.1 = true then em x.2.2.1 + 1 else 0) ?_ ?_
    ·by_cases h0 : acc = []
     ·subst h0
      simp only [encs, qr, qt]
      refine q8 (true, em (qi d [61]).1 + 2, (qi d [61]).1, []) [0, 1, 2, 3] ⟨g2, fun _ => ⟨htg2, by simp only; omega⟩, (by intro h; cases h), ?_⟩ rfl (by simp) ?_ ?_ ?_
      ·simp only [List.length_nil, if_true]; omega
      all_goals simp only [qog, zEC, zEN, encs, qr, qt]
      all_goals (refine ev_ ?_; (try with_reducible exact ti_))
     ·have hne := q9 h0
      simp only [qbd hne, qbc hne, qx]
      refine q8 (true, em (qi d [61]).1 + 2, (qi d [61]).1, acc) [0, 1, 2, 3, 4] ⟨g2, fun _ => ⟨htg2, by simp only; omega⟩, (by intro h; cases h), ?_⟩ rfl (by simp) ?_ ?_ ?_
      ·simp only [if_true]; omega
      all_goals simp only [qog, zEC, zEN, qbd hne, qbc hne, qx]
      all_goals (refine ev_ ?_; (try with_reducible exact ti_))
      all_goals (rw [qo, qbb]; exact ⟨rfl, rfl⟩)
    ·rintro ⟨on, fu2, d2, acc2⟩ ⟨k1, k2, k3, k4⟩
     simp only at k1 k2 k3 k4
     unfold qog zEC zEN
     have hcap2 : qdq (acc2.length + 1) 64 := capB (by split at k4 <;> omega)
     clear hcap
     cases on with
     | false =>
       have k3 := k3 rfl
       subst k3
       by_cases h0 : acc2 = []
       ·subst h0
        simp only [encs, qr, qt]
        repeat' (first | refine vs_ ?_ | ((first | refine vr_ ?_ | (refine cs_ ?_ ?_ <;> intro hc) | refine cj_ ?_ | simp (disch := omega) only [qh, qs]) <;> (try refine ev_ ?_)) | with_reducible exact ti_)
        all_goals (rw [← ql0]; simp only [encs]; first | done | rfl | exact ⟨rfl, rfl⟩)
       ·have hne := q9 h0
        simp only [qbd hne, qbc hne, qx]
        repeat' (first | refine vs_ ?_ | ((first | refine vr_ ?_ | (refine cs_ ?_ ?_ <;> intro hc) | refine cj_ ?_ | simp (disch := omega) only [qh, qs]) <;> (try refine ev_ ?_)) | with_reducible exact ti_)
        all_goals (rw [← ql0]; first | done | rfl | exact ⟨rfl, rfl⟩ | exact ⟨qo _ _, rfl⟩)
     | true =>
       obtain ⟨k2, k6⟩ := k2 rfl
       obtain ⟨fu2, rfl⟩ : ∃ k, fu2 = k + 1 := ⟨fu2 - 1, by omega⟩
       rw [qhg] at k2
       have hx := qban d2 k1
       have j1 := (qjh d2).1 k1
       have j2 := (qjh d2).em
       generalize qf8 d2 = r at *
       obtain ⟨d', n⟩ := r
       simp only at hx j1 j2 k2
       have j3 : (qf d' [124]).1.good := (qk d' _).1 j1
       have j4 := (qk d' [124]).em
       have m3 : (qf d' [124]).2 = true → qhg fu2 (qf d' [124]).1 (acc2 ++ [n]) = tg2 ∧ em (qf d' [124]).1 < fu2 := fun h => by
        rw [if_pos h] at k2
        have := qdx h
        exact ⟨k2, by omega⟩
       have m4 : (qf d' [124]).2 = false → tg2 = ((qf d' [124]).1, acc2 ++ [n]) := fun h => by
        rw [if_neg (by rw [h]; simp)] at k2
        exact k2.symm
       have m5 : (if (qf d' [124]).2 = true then em (qf d' [124]).1 + 1 else 0) < em d2 + 1 := by
        split
        ·rename_i h; have := qdx h; omega
        ·omega
       have m6 : (acc2 ++ [n]).length + (if (qf d' [124]).2 = true then em (qf d' [124]).1 + 1 else 0) ≤ 2097158 := by
        simp only [if_true] at k4
        simp only [List.length_append, List.length_cons, List.length_nil]
        omega
       by_cases h0 : acc2 = []
       ·subst h0
        simp only [encs, qr, qt]
        repeat' (first | refine vs_ ?_ | ((first | refine vr_ ?_ | refine qa hx fun _ => ?_ | refine qa (qv d' _) fun _ => ?_ | refine qb hx ?_ | refine qb (qv d' _) ?_ | (refine cs_ ?_ ?_ <;> intro hc) | refine cj_ ?_ | simp (disch := omega) only [qh, qs]) <;> (try refine ev_ ?_)) | with_reducible exact ti_)
        all_goals (
         refine q8 ((qf d' [124]).2, fu2, (qf d' [124]).1, [] ++ [n]) [0, 1, 2, 3, 6] ⟨⟨j3, m3, m4, m6⟩, by simpa using m5⟩ rfl (by simp) ?_ ?_ ?_
         all_goals simp only [qog, zEC, zEN, ← qe, qbs, qbr, List.nil_append, encs, qby, qbx]
         all_goals (refine ev_ ?_; (try with_reducible exact ti_))
         all_goals (try (rw [qe, qo, qbb]; exact ⟨rfl, rfl⟩)))
       ·have hne := q9 h0
        simp only [qbd hne, qbc hne, qx]
        repeat' (first | refine vs_ ?_ | ((first | refine vr_ ?_ | refine qa hx fun _ => ?_ | refine qa (qv d' _) fun _ => ?_ | refine qb hx ?_ | refine qb (qv d' _) ?_ | (refine cs_ ?_ ?_ <;> intro hc) | refine cj_ ?_ | simp (disch := omega) only [qh, qs]) <;> (try refine ev_ ?_)) | with_reducible exact ti_)
        all_goals (
         refine q8 ((qf d' [124]).2, fu2, (qf d' [124]).1, acc2 ++ [n]) [0, 1, 2, 3, 7] ⟨⟨j3, m3, m4, m6⟩, by simpa using m5⟩ rfl (by simp) ?_ ?_ ?_
         all_goals simp only [qog, zEC, zEN, ← qe, qbs, qbr, List.nil_append, encs, qby, qbx]
         all_goals (refine ev_ ?_; (try with_reducible exact ti_))
         all_goals (try (rw [qe, qo, qbb]; exact ⟨rfl, rfl⟩))))
set_option maxRecDepth 4000

def qqv (kd : Int) (x : Bool × Nat × K × List N) : AF × List Ent :=
 (⟨[(1, .int .i64 kd), (2, .ptr 0 0), (4, .ptr 1 0), (6, accV 2 (encs x.2.2.2)), (7, .bool x.1)], []⟩,
   .blk (refC x.2.2.1).cells :: zEC :: accE 5 (encs x.2.2.2))
set_option maxHeartbeats 2000000 in
theorem qtt (kd : Int) (c : K) (hg : c.good) : qz Tryz.prog 85 [refC c, .int .i64 kd] (.tup [refC (qe3 kd c).1, .sl 5 (encs (qe3 kd c).2)]) := by
 refine qj c0f (by simp) (by simp only [go_sem]) (by simp only [go_sem]) fun hw => ?_
 have g1 : (qi c [119, 104, 101, 114, 101]).1.good := (qd c _).1 hg
 have g2 : (qi (qi c [119, 104, 101, 114, 101]).1 [123]).1.good := (qd _ _).1 g1
 unfold qe3 qjn
 have h7 := qgo (qi (qi c [119, 104, 101, 114, 101]).1 [123]).1
 have h6 := g2.rest
 unfold rest at h7
 generalize hD : (qi (qi c [119, 104, 101, 114, 101]).1 [123]).1 = D at *
 generalize htg : (if (decide (D.err = 0) && !isK D [125]) = true then qgc kd (em D + 2) D [] else (D, [])) = tg
 have hon : (decide (D.err = 0) && !isK D [125]) = true → qgc kd (em D + 2) D [] = tg := fun h => by rw [← htg, if_pos h]
 have hoff : (decide (D.err = 0) && !isK D [125]) = false → tg = (D, []) := fun h => by rw [← htg, if_neg (by rw [h]; simp)]
 clear htg
 repeat' (first | refine vs_ ?_ | ((first | refine vr_ ?_ | fail) <;> (try simp only [hD, go_sem, ↓reduceIte])) | ((first | (refine cs_ ?_ ?_ <;> intro hc) | refine cj_ ?_ | fail | refine qa (qba _ _) fun _ => ?_ | refine qa (qcw _ _) fun _ => ?_) <;> (try refine ev_ ?_)) | with_reducible exact ti_)
 all_goals (
  refine qbm (S := Bool × Nat × K × List N) (fun x => x.2.2.1.good ∧ (x.1 = true → qgc kd x.2.1 x.2.2.1 x.2.2.2 = tg ∧ em x.2.2.1 < x.2.1) ∧ (x.1 = false → tg = (x.2.2.1, x.2.2.2)) ∧ x.2.2.2.length + (if x.1 = true then em x.2.2.1 + 1 else 0) ≤ 2097158) (qqv kd) (fun x => if x.1 = true then em x.2.2.1 + 1 else 0) ?_ ?_
  ·refine q8 (decide (D.err = 0) && !isK D [125], em D + 2, D, []) [0, 1] ⟨g2, fun h => ⟨hon h, by simp only; omega⟩, hoff, ?_⟩ rfl (by simp) ?_ ?_ ?_
   ·simp only [List.length_nil]; split <;> omega
   all_goals simp only [qqv, zEC, encs, qr, qt, *]
   all_goals (refine ev_ ?_; (try with_reducible exact ti_))
   all_goals (try (rw [show D.err = 0 by assumption]))
  ·rintro ⟨on, fu, d, acc⟩ ⟨k1, k2, k3, k4⟩
   simp only at k1 k2 k3 k4
   unfold qqv zEC
   have hcap : qdq (acc.length + 1) 64 := capB (by split at k4 <;> omega)
   clear hon hoff hD
   cases on with
   | false =>
     have k3 := k3 rfl
     subst k3
     unfold qnm
     by_cases h0 : acc = []
     ·subst h0
      simp only [encs, qr, qt]
      repeat' (first | refine vs_ ?_ | ((first | refine vr_ ?_ | refine qa (qba _ _) fun _ => ?_ | (refine cs_ ?_ ?_ <;> intro hc) | refine cj_ ?_ | fail) <;> (try refine ev_ ?_)) | with_reducible exact ti_)
     ·have hne := q9 h0
      simp only [qbd hne, qbc hne, qx]
      repeat' (first | refine vs_ ?_ | ((first | refine vr_ ?_ | refine qa (qba _ _) fun _ => ?_ | (refine cs_ ?_ ?_ <;> intro hc) | refine cj_ ?_ | fail) <;> (try refine ev_ ?_)) | with_reducible exact ti_)
      all_goals (try exact qo _ _)
   | true =>
     obtain ⟨k2, k6⟩ := k2 rfl
     obtain ⟨fu, rfl⟩ : ∃ k, fu = k + 1 := ⟨fu - 1, by omega⟩
     rw [qgc] at k2
     have hx := qtl d k1
     have j1 := (qf9 kd d).1 k1
     have j2 := (qf9 kd d).em
     unfold qek at k2 j1 j2
     generalize qfl d = r at *
     obtain ⟨d', n⟩ := r
     obtain ⟨nk, np, nm, nt, nl⟩ := n
     simp only at hx j1 j2 k2
     generalize hE : (if d'.err = 0 ∧ (N.mk nk np nm nt nl).kind ≠ kd then qdh d' 5 else d') = e at *
     have hE1 : d'.err = 0 → ¬ nk = kd → qdh d' 5 = e := fun h1 h2 => by rw [← hE, if_pos ⟨h1, by simpa [N.kind] using h2⟩]
     have hE2 : ¬ (d'.err = 0 ∧ ¬ nk = kd) → d' = e := fun h => by rw [← hE, if_neg (by simpa [N.kind] using h)]
     clear hE
     have j3 : (qb1 e).1.good := (qfo e).1 j1
     have j4 := (qfo e).em
     have m3 : (qb1 e).2 = true → qgc kd fu (qb1 e).1 (acc ++ [N.mk nk np nm nt nl]) = tg ∧ em (qb1 e).1 < fu := fun h => by
      rw [if_pos h] at k2
      have := qjk h
      exact ⟨k2, by omega⟩
     have m4 : (qb1 e).2 = false → tg = ((qb1 e).1, acc ++ [N.mk nk np nm nt nl]) := fun h => by
      rw [if_neg (by rw [h]; simp)] at k2
      exact k2.symm
     have m5 : (if (qb1 e).2 = true then em (qb1 e).1 + 1 else 0) < em d + 1 := by
      split
      ·rename_i h; have := qjk h; omega
      ·omega
     have m6 : (acc ++ [N.mk nk np nm nt nl]).length + (if (qb1 e).2 = true then em (qb1 e).1 + 1 else 0) ≤ 2097158 := by
      simp only [if_true] at k4
      simp only [List.length_append, List.length_cons, List.length_nil]
      omega
     by_cases hf : d'.err = 0 ∧ ¬ nk = kd
     ·have hf2 : ¬ (N.mk nk np nm nt nl).kind = kd := by simpa [N.kind] using hf.2
      obtain rfl := hE1 hf.1 hf.2
      by_cases h0 : acc = []
      ·subst h0
       simp only [encs, qr, qt]
       repeat' (first | refine vs_ ?_ | ((first | refine vr_ ?_ | refine qa hx fun _ => ?_ | refine qa (qcr d' _) fun _ => ?_ | refine qa (qv (qdh d' 5) _) fun _ => ?_ | refine qa (qcw (qf (qdh d' 5) [59]).1 _) fun _ => ?_ | (refine cs_ ?_ ?_ <;> intro hc) | refine cj_ ?_ | fail) <;> (try refine ev_ ?_)) | with_reducible exact ti_)
       all_goals first | exact absurd hf.1 (by assumption) | exact absurd (by assumption) hf2 | skip
       all_goals (
        refine q8 ((qb1 (qdh d' 5)).2, fu, (qb1 (qdh d' 5)).1, [] ++ [N.mk nk np nm nt nl]) [0, 1, 4] ⟨⟨j3, m3, m4, m6⟩, by simpa using m5⟩ rfl (by simp) ?_ ?_ ?_
        all_goals (clear m3 m4 m5 m6 k2 j3 j4)
        all_goals simp only [qqv, qb1, zEC, ← qe, qbs, qbr, List.nil_append, encs, qby, qbx, *]
        all_goals (refine ev_ ?_; (try with_reducible exact ti_))
        all_goals (try (rw [qe, qo, qbb]; exact ⟨rfl, rfl⟩)))
      ·have hne := q9 h0
       simp only [qbd hne, qbc hne, qx]
       repeat' (first | refine vs_ ?_ | ((first | refine vr_ ?_ | refine qa hx fun _ => ?_ | refine qa (qcr d' _) fun _ => ?_ | refine qa (qv (qdh d' 5) _) fun _ => ?_ | refine qa (qcw (qf (qdh d' 5) [59]).1 _) fun _ => ?_ | (refine cs_ ?_ ?_ <;> intro hc) | refine cj_ ?_ | fail) <;> (try refine ev_ ?_)) | with_reducible exact ti_)
       all_goals first | exact absurd hf.1 (by assumption) | exact absurd (by assumption) hf2 | skip
       all_goals (
        refine q8 ((qb1 (qdh d' 5)).2, fu, (qb1 (qdh d' 5)).1, acc ++ [N.mk nk np nm nt nl]) [0, 1, 5] ⟨⟨j3, m3, m4, m6⟩, by simpa using m5⟩ rfl (by simp) ?_ ?_ ?_
        all_goals (clear m3 m4 m5 m6 k2 j3 j4)
        all_goals simp only [qqv, qb1, zEC, ← qe, qbs, qbr, List.nil_append, encs, qby, qbx, *]
        all_goals (refine ev_ ?_; (try with_reducible exact ti_))
        all_goals (try (rw [qe, qo, qbb]; exact ⟨rfl, rfl⟩)))
     ·have hf3 : ¬ (d'.err = 0 ∧ ¬ (N.mk nk np nm nt nl).kind = kd) := by simpa [N.kind] using hf
      obtain rfl := hE2 hf
      by_cases h0 : acc = []
      ·subst h0
       simp only [encs, qr, qt]
       repeat' (first | refine vs_ ?_ | ((first | refine vr_ ?_ | refine qa hx fun _ => ?_ | refine qa (qcr d' _) fun _ => ?_ | refine qa (qv d' _) fun _ => ?_ | refine qa (qcw (qf d' [59]).1 _) fun _ => ?_ | (refine cs_ ?_ ?_ <;> intro hc) | refine cj_ ?_ | fail) <;> (try refine ev_ ?_)) | with_reducible exact ti_)
       all_goals first | exact absurd ⟨by assumption, by assumption⟩ hf3 | skip
       all_goals (
        refine q8 ((qb1 d').2, fu, (qb1 d').1, [] ++ [N.mk nk np nm nt nl]) [0, 1, 4] ⟨⟨j3, m3, m4, m6⟩, by simpa using m5⟩ rfl (by simp) ?_ ?_ ?_
        all_goals (clear m3 m4 m5 m6 k2 j3 j4)
        all_goals simp only [qqv, qb1, zEC, ← qe, qbs, qbr, List.nil_append, encs, qby, qbx, *]
        all_goals (refine ev_ ?_; (try with_reducible exact ti_))
        all_goals (try (rw [qe, qo, qbb]; exact ⟨rfl, rfl⟩)))
      ·have hne := q9 h0
       simp only [qbd hne, qbc hne, qx]
       repeat' (first | refine vs_ ?_ | ((first | refine vr_ ?_ | refine qa hx fun _ => ?_ | refine qa (qcr d' _) fun _ => ?_ | refine qa (qv d' _) fun _ => ?_ | refine qa (qcw (qf d' [59]).1 _) fun _ => ?_ | (refine cs_ ?_ ?_ <;> intro hc) | refine cj_ ?_ | fail) <;> (try refine ev_ ?_)) | with_reducible exact ti_)
       all_goals first | exact absurd ⟨by assumption, by assumption⟩ hf3 | skip
       all_goals (
        refine q8 ((qb1 d').2, fu, (qb1 d').1, acc ++ [N.mk nk np nm nt nl]) [0, 1, 5] ⟨⟨j3, m3, m4, m6⟩, by simpa using m5⟩ rfl (by simp) ?_ ?_ ?_
        all_goals (clear m3 m4 m5 m6 k2 j3 j4)
        all_goals simp only [qqv, qb1, zEC, ← qe, qbs, qbr, List.nil_append, encs, qby, qbx, *]
        all_goals (refine ev_ ?_; (try with_reducible exact ti_))
        all_goals (try (rw [qe, qo, qbb]; exact ⟨rfl, rfl⟩))))
end Go.Proofs.YtfjbmjplnmaclaaGreat
