/- A text of this proof. -/
import Derived.Test.YtfjbmjplnmaclaaObo
import Derived.Test.YtfjbmjplnmaclaaObq

/- declarations side by side, with a semicolon behind -/
namespace Go.Proofs.Ytfjbmjplnmaclaa.EX
open Go Go.RowKit Go.V
set_option linter.unusedVariables false
set_option linter.unusedSimpArgs false
set_option linter.unusedSectionVars false

theorem qbrs {c : K} (h : Lim 0 c) : False := by have := h.2; omega
/-- The other reads the same. -/
def Eqs (tl : List T) (c : K) (p p' : R3) : Prop := p.2.2 = true → p.1.nest = c.nest ∧ p'.2 = p.2 ∧ Sm 0 tl p.1 p'.1
section
variable {tl : List T} (hs : Stop tl)
include hs
theorem q5n {c : K} {p p' : K × Option N} (h : Side NS 0 tl c p p') : Eqs tl c (ofO p) (ofO p') := fun hp => by
  cases hy : p.2 with
  | none => simp only [ofO, hy] at hp; cases hp
  | some y =>
    rcases h y hy with ⟨q1, y', q2, q3, q4⟩ | ⟨q1, q2⟩
    · have : y = y' := q3
      subst this
      exact ⟨q1, by simp only [ofO, hy, q2], q4⟩
    · exact (qbrs q2).elim
theorem qtt (c c' : K) (h : Sm 0 tl c c') : Eqs tl c (qdq c) (qdq c') := by
  have hle := h.le
  exact q5n hs (qg9 hs (qjn hs (rest c + 2) (rest c' + 2) (by omega)) c c' h)
theorem qq8 (c c' : K) (h : Sm 0 tl c c') : Side NS 0 tl c (qe3 c) (qe3 c') := by
  have hle := h.le
  exact qm7 hs (qro hs (rest c + 2) (rest c' + 2) (by omega)) c c' h
/-- What tells whether one more comes does so alike. -/
def EqM (tl : List T) (more : MF) : Prop := ∀ b c c', Sm 0 tl c c' → (more b c').1 = (more b c).1 ∧ (more b c').2.2 = (more b c).2.2 ∧ Sm 0 tl (more b c).2.1 (more b c').2.1 ∧ (more b c).2.1.nest = c.nest
theorem qbin : EqM tl (qf4 begT) := fun b c c' h => by
  refine ⟨rfl, ?_, h, rfl⟩
  show begT c' = begT c
  have h1 := h.kind hs (k := 1) (by decide) (by decide)
  have h2 := h.kind hs (k := 2) (by decide) (by decide)
  unfold begT
  rw [h.is hs (by decide) (by decide) (by decide)]
  simp only [h1, h2]
theorem qblt : EqM tl (qf4 qfa) := fun b c c' h => by
  refine ⟨rfl, ?_, h, rfl⟩
  show qfa c' = qfa c
  unfold qfa
  simp only [h.kind hs (k := 1) (by decide) (by decide)]
theorem q4c : EqM tl (qbs [124]) := fun b c c' h => by
  unfold qbs
  cases b with
  | true =>
    obtain ⟨t1, t2, t3⟩ := h.take hs (x := [124]) (by decide) (by decide) (by decide)
    rw [if_pos rfl, if_pos rfl]
    exact ⟨rfl, t1, t2, t3⟩
  | false => exact ⟨rfl, rfl, h, rfl⟩
/-- A row, side by side. -/
theorem qy2 {one : K → R3} {more : MF} (ho : ∀ c c', Sm 0 tl c c' → Eqs tl c (one c) (one c')) (hm : EqM tl more) : ∀ (f f' : Nat), f ≤ f' → ∀ (b : Bool) (c c' : K) (acc : List N), Sm 0 tl c c' →
    (rowF one more f b c acc).2.2.2 = true → (rowF one more f b c acc).2.1.nest = c.nest ∧ (rowF one more f' b c' acc).2.2 = (rowF one more f b c acc).2.2 ∧ Sm 0 tl (rowF one more f b c acc).2.1 (rowF one more f' b c' acc).2.1
  | 0, _, _, _, _, _, _, _ => fun h => by cases h
  | f + 1, 0, hf, _, _, _, _, _ => by omega
  | f + 1, f' + 1, hf, b, c, c', acc, h => fun hp => by
    obtain ⟨m1, m2, m3, m4⟩ := hm b c c' h
    rw [rowF] at hp ⊢
    rw [rowF, m2, m1]
    cases ha : (more b c).2.2 with
    | false =>
      rw [if_neg noB, if_neg noB]
      exact ⟨m4, rfl, m3⟩
    | true =>
      rw [ha, if_pos rfl] at hp
      rw [if_pos rfl, if_pos rfl]
      cases hq : (one (more b c).2.1).2.2 with
      | false => rw [hq, if_neg noB] at hp; cases hp
      | true =>
        rw [hq, if_pos rfl] at hp
        obtain ⟨o1, o2, o3⟩ := ho _ _ m3 hq
        rw [if_pos rfl, o2, hq, if_pos rfl]
        obtain ⟨r1, r2, r3⟩ := qy2 ho hm f f' (by omega) (more b c).1 _ _ _ o3 hp
        exact ⟨r1.trans (o1.trans m4), r2, r3⟩
theorem qtr {one : K → R3} {more : MF} (ho : ∀ c c', Sm 0 tl c c' → Eqs tl c (one c) (one c')) (hm : EqM tl more) (b : Bool) (c c' : K) (acc : List N) (h : Sm 0 tl c c') (hp : (rowS one more b c acc).2.2.2 = true) :
    (rowS one more b c acc).2.1.nest = c.nest ∧ (rowS one more b c' acc).2.2 = (rowS one more b c acc).2.2 ∧ Sm 0 tl (rowS one more b c acc).2.1 (rowS one more b c' acc).2.1 := by
  have hle := h.le
  exact qy2 hs ho hm _ _ (by omega) b c c' acc h hp
theorem qbfs (c c' : K) (h : Sm 0 tl c c') : Eqs tl c (conK c) (conK c') := fun hp => by
  rw [conK] at hp ⊢
  rw [conK]
  cases hk : (kindK c 2).2 with
  | false => rw [hk, if_neg noB] at hp; cases hp
  | true =>
    obtain ⟨k1, k2, k3, k4⟩ := h.kindK (by decide) hk
    rw [hk, if_pos rfl] at hp
    rw [if_pos rfl, k1, if_pos rfl]
    obtain ⟨r1, r2, r3⟩ := qtr hs (qtt hs) (qbin hs) false _ _ [] k2 hp
    have e1 := congrArg Prod.fst r2
    have e2 := congrArg Prod.snd r2
    exact ⟨r1.trans k3, by rw [e1, e2, show qef c' 2 = qef c 2 from k4], r3⟩
theorem qbbp (p : Int) (c c' : K) (h : Sm 0 tl c c') : Eqs tl c (qkl p c) (qkl p c') := fun hp => by
  rw [qkl] at hp ⊢
  rw [qkl]
  cases hk : (kindK c 2).2 with
  | false => rw [hk, if_neg noB] at hp; cases hp
  | true =>
    obtain ⟨k1, k2, k3, k4⟩ := h.kindK (by decide) hk
    rw [hk, if_pos rfl] at hp
    rw [if_pos rfl, k1, if_pos rfl]
    obtain ⟨r1, r2, r3⟩ := qtr hs (qtt hs) (qblt hs) false _ _ [] k2 (qtf _ _ _ _ (Nat.lt_succ_self _))
    rw [qwx, qvo] at hp ⊢
    rw [qwx, qvo]
    cases hw : (qq (rowS qdq (qf4 qfa) false (kindK c 2).1 []).2.1 [61]).2 with
    | false => rw [hw, if_neg noB] at hp; cases hp
    | true =>
      obtain ⟨w1, w2, w3⟩ := r3.want hw
      rw [hw, if_pos rfl] at hp
      rw [w1, if_pos rfl, if_pos rfl]
      have e1 := congrArg Prod.fst r2
      rw [e1]
      obtain ⟨u1, u2, u3⟩ := qtr hs (qbfs hs) (q4c hs) false _ _ _ w2 hp
      have e2 := congrArg Prod.fst u2
      have e3 := congrArg Prod.snd u2
      exact ⟨by rw [u1, w3, r1, k3], by rw [e2, e3, show qef c' 2 = qef c 2 from k4], u3⟩
theorem q1p (kd : Int) (c c' : K) (h : Sm 0 tl c c') : Eqs tl c (qbf kd c) (qbf kd c') := fun hp => by
  have hb := q5n hs (qq8 hs c c' h)
  unfold qbf at hp ⊢
  split at hp
  · cases hp
  · rename_i hq
    rw [if_neg hq]
    obtain ⟨b1, b2, b3⟩ := hb hp
    have e1 : (qe3 c').2 = (qe3 c).2 := by
      have e2 := congrArg Prod.fst b2
      have e3 := congrArg Prod.snd b2
      simp only [ofO] at e2 e3
      have e4 : (qe3 c).2.isSome = true := hp
      cases hx : (qe3 c).2 with
      | none => rw [hx] at e4; cases e4
      | some x =>
        rw [hx] at e2 e3
        cases hy : (qe3 c').2 with
        | none => rw [hy] at e3; cases e3
        | some y => rw [hy] at e2; rw [show y = x from e2]
    rw [e1, if_neg hq]
    exact ⟨b1, by simp only [ofO, e1], b3⟩
theorem isN (c c' : K) (h : Sm 0 tl c c') (hn : remT c ≠ []) (x : List UInt8) : isK c' x = isK c x ∧ (qs c' x).2 = (qs c x).2 ∧ Sm 0 tl (qs c x).1 (qs c' x).1 ∧ (qs c x).1.nest = c.nest := by
  have hi : isK c' x = isK c x := by
    rcases h.peek with ⟨t, t', r, r', _, _, hb, _, p1, p2⟩ | ⟨hr, _, _⟩
    · unfold isK
      rw [p1, p2, qhk hb, decide_eq_true h.e, decide_eq_true h.e']
    · exact absurd hr hn
  refine ⟨hi, ?_⟩
  cases hx : isK c x with
  | true =>
    obtain ⟨k1, k2, k3⟩ := h.isT hx
    rw [qiq hx, qiq k1]; exact ⟨rfl, k2, k3⟩
  | false => rw [qf1 hx, qf1 (by rw [hi]; exact hx)]; exact ⟨rfl, h, rfl⟩
omit hs in
theorem qrk {kd : Int} {c : K} (hn : remT c = []) : (qbf kd c).2.2 = false := by
  have hb : (qe3 c).2 = none := by unfold qe3; rw [qb2, q0h hn (by decide), if_neg noB]
  unfold qbf
  rw [hb, if_neg (by simp)]
  simp only [ofO, hb]; rfl
theorem qz4 (kd : Int) : ∀ (f f' : Nat), f ≤ f' → ∀ (b : Bool) (c c' : K) (acc : List N), Sm 0 tl c c' → (rowF (qbf kd) qdf f b c acc).2.2.2 = true → (qq (rowF (qbf kd) qdf f b c acc).2.1 [125]).2 = true →
    (rowF (qbf kd) qdf f b c acc).2.1.nest = c.nest ∧ (rowF (qbf kd) qdf f' b c' acc).2.2 = (rowF (qbf kd) qdf f b c acc).2.2 ∧ Sm 0 tl (rowF (qbf kd) qdf f b c acc).2.1 (rowF (qbf kd) qdf f' b c' acc).2.1
  | 0, _, _, _, _, _, _, _ => fun h => by cases h
  | f + 1, 0, hf, _, _, _, _, _ => by omega
  | f + 1, f' + 1, hf, b, c, c', acc, h => fun hp hw => by
    rw [rowF] at hp hw ⊢
    rw [rowF]
    by_cases hn : remT c = []
    · exfalso
      have hi : isK c [125] = false := qjc hn _
      have ht : (qs c [59]) = (c, false) := qf1 (qjc hn _)
      have hm : qdf b c = if b = true then (b, c, false) else (true, c, true) := by
        unfold qdf qbs
        rw [hi, if_neg noB]
        cases b with
        | true => simp only [if_true, ht, Bool.false_and]
        | false => simp only [if_neg noB, hi, Bool.not_false, Bool.and_true]
      rw [hm] at hp hw
      cases b with
      | true =>
        simp only [if_true, if_neg noB] at hw
        rw [qtg hn] at hw; cases hw
      | false =>
        simp only [if_neg noB, if_true, qrk hn] at hp
        cases hp
    · have i1 := isN hs c c' h hn
      cases hi : isK c [125] with
      | true =>
        have m1 : qdf b c = (b, c, false) := by unfold qdf; rw [if_pos hi]
        have m2 : qdf b c' = (b, c', false) := by unfold qdf; rw [if_pos (by rw [(i1 _).1]; exact hi)]
        rw [m1, m2, if_neg noB, if_neg noB]
        exact ⟨rfl, rfl, h⟩
      | false =>
        have hi' : isK c' [125] = false := by rw [(i1 _).1]; exact hi
        obtain ⟨_, t1, t2, t3⟩ := i1 [59]
        -- after first
        have hf1 : (qbs [59] b c').1 = (qbs [59] b c).1 ∧ (qbs [59] b c').2.2 = (qbs [59] b c).2.2 ∧ Sm 0 tl (qbs [59] b c).2.1 (qbs [59] b c').2.1 ∧ (qbs [59] b c).2.1.nest = c.nest := by
          unfold qbs
          cases b with
          | true => rw [if_pos rfl, if_pos rfl]; exact ⟨rfl, t1, t2, t3⟩
          | false => exact ⟨rfl, rfl, h, rfl⟩
        have hm : ∀ d, isK d [125] = false → qdf b d = ((qbs [59] b d).1, (qbs [59] b d).2.1, (qbs [59] b d).2.2 && !isK (qbs [59] b d).2.1 [125]) := fun d hd => by unfold qdf; rw [hd, if_neg noB]
        rw [hm c hi] at hp hw ⊢
        rw [hm c' hi']
        obtain ⟨a1, a2, a3, a4⟩ := hf1
        rw [a1, a2]
        generalize qbs [59] b c = F at *
        generalize qbs [59] b c' = F' at *
        obtain ⟨fb, d, fa⟩ := F
        obtain ⟨fb', d', fa'⟩ := F'
        simp only at a3 a4 hp hw ⊢
        by_cases hn2 : remT d = []
        · rw [qjc hn2] at hp hw
          exfalso
          cases fa with
          | false =>
            simp only [Bool.false_and, if_neg noB] at hw
            rw [qtg hn2] at hw; cases hw
          | true =>
            simp only [Bool.true_and, Bool.not_false, if_true, qrk hn2, if_neg noB] at hp
            cases hp
        · rw [(isN hs d d' a3 hn2 [125]).1]
          cases hq : (fa && !isK d [125]) with
          | false =>
            rw [if_neg noB, if_neg noB]
            exact ⟨a4, rfl, a3⟩
          | true =>
            rw [hq, if_pos rfl] at hp hw
            rw [if_pos rfl, if_pos rfl]
            cases ho : (qbf kd d).2.2 with
            | false => rw [ho, if_neg noB] at hp; cases hp
            | true =>
              rw [ho, if_pos rfl] at hp hw
              obtain ⟨o1, o2, o3⟩ := q1p hs kd d d' a3 ho
              rw [if_pos rfl, o2, ho, if_pos rfl]
              obtain ⟨r1, r2, r3⟩ := qz4 kd f f' (by omega) fb _ _ _ o3 hp hw
              exact ⟨r1.trans (o1.trans a4), r2, r3⟩
theorem qbbn (kd : Int) (c c' : K) (out : List N) (h : Sm 0 tl c c') (hp : (qc9 kd c out).2.2 = true) : (qc9 kd c out).1.nest = c.nest ∧ (qc9 kd c' out).2 = (qc9 kd c out).2 ∧ Sm 0 tl (qc9 kd c out).1 (qc9 kd c' out).1 := by
  unfold qc9 at hp ⊢
  cases h1 : (qq c [119, 104, 101, 114, 101]).2 with
  | false => rw [h1, if_neg noB] at hp; cases hp
  | true =>
    obtain ⟨w1, w2, w3⟩ := h.want h1
    rw [h1, if_pos rfl] at hp
    rw [w1, if_pos rfl, if_pos rfl]
    cases h2 : (qq (qq c [119, 104, 101, 114, 101]).1 [123]).2 with
    | false => rw [h2, if_neg noB] at hp; cases hp
    | true =>
      obtain ⟨x1, x2, x3⟩ := w2.want h2
      rw [h2, if_pos rfl] at hp
      rw [x1, if_pos rfl, if_pos rfl]
      unfold ql5 at hp ⊢
      have hle := x2.le
      cases h3 : (rowS (qbf kd) qdf false (qq (qq c [119, 104, 101, 114, 101]).1 [123]).1 out).2.2.2 with
      | false => rw [h3, if_neg noB] at hp; rw [h3] at hp; cases hp
      | true =>
        rw [h3, if_pos rfl] at hp
        rw [if_pos rfl]
        obtain ⟨r1, r2, r3⟩ := qz4 hs kd (rest (qq (qq c [119, 104, 101, 114, 101]).1 [123]).1 + 1) (rest (qq (qq c' [119, 104, 101, 114, 101]).1 [123]).1 + 1) (by omega) false _ _ out x2 h3 hp
        have r2 : (rowS (qbf kd) qdf false (qq (qq c' [119, 104, 101, 114, 101]).1 [123]).1 out).2.2 = (rowS (qbf kd) qdf false (qq (qq c [119, 104, 101, 114, 101]).1 [123]).1 out).2.2 := r2
        obtain ⟨z1, z2, z3⟩ := r3.want hp
        rw [show (rowS (qbf kd) qdf false (qq (qq c' [119, 104, 101, 114, 101]).1 [123]).1 out).2.2.2 = true by rw [r2, h3], if_pos rfl]
        refine ⟨z3.trans (r1.trans (x3.trans w3)), ?_, z2⟩
        have e1 := congrArg Prod.fst r2
        exact Prod.ext e1 (z1.trans hp.symm)
theorem qzx (k p : Int) (c c' : K) (h : Sm 0 tl c c') : Eqs tl c (qku k p c) (qku k p c') := fun hp => by
  have hle := h.le
  have hP := qlh hs (qjn hs (rest c + 2) (rest c' + 2) (by omega)) c c' h
  have hP : Side (fun x y => x.map qbg = y.map qbg) 0 tl c (qcz c) (qcz c') := hP
  unfold qku at hp ⊢
  cases h1 : (qcz c).2 with
  | none => rw [h1] at hp; cases hp
  | some v =>
    rcases hP v h1 with ⟨q1, v', q2, q3, q4⟩ | ⟨_, q2⟩
    · rw [qj0, qj0] at q3
      subst q3
      rw [h1, Option.isSome_some, if_pos rfl, Option.getD_some] at hp
      rw [q2, Option.isSome_some, if_pos rfl, if_pos rfl, Option.getD_some]
      unfold q15 at hp ⊢
      cases h2 : (kindK (qcz c).1 2).2 with
      | false => rw [h2, if_neg noB] at hp; cases hp
      | true =>
        obtain ⟨k1, k2, k3, k4⟩ := q4.kindK (by decide) h2
        rw [h2, if_pos rfl] at hp
        rw [k1, if_pos rfl, if_pos rfl, show qef (qcz c').1 2 = qef (qcz c).1 2 from k4]
        unfold qw3 q1m at hp ⊢
        have hkd := k2.kind hs (k := 1) (by decide) (by decide)
        by_cases h3 : k = 35 ∧ (qw (kindK (qcz c).1 2).1).kind ≠ 1
        · rw [if_pos h3] at hp; cases hp
        · rw [if_neg h3] at hp
          have h3' : ¬ (k = 35 ∧ (qw (kindK (qcz c').1 2).1).kind ≠ 1) := fun q => h3 ⟨q.1, fun e => q.2 (hkd.2 e)⟩
          rw [if_neg h3, if_neg h3']
          have hA := qtt hs _ _ k2
          cases h4 : (qfz (kindK (qcz c).1 2).1).2 with
          | none => rw [h4] at hp; cases hp
          | some a =>
            obtain ⟨a1, a2, a3⟩ := hA (by show (qfz (kindK (qcz c).1 2).1).2.isSome = true; rw [h4]; rfl)
            have e1 : (qfz (kindK (qcz c').1 2).1).2 = some a := by
              have e2 := congrArg Prod.fst a2
              have e3 := congrArg Prod.snd a2
              simp only [qdq, ofO] at e2 e3
              rw [h4] at e2 e3
              cases hy : (qfz (kindK (qcz c').1 2).1).2 with
              | none => rw [hy] at e3; cases e3
              | some y => rw [hy] at e2; rw [show y = a from e2]
            rw [h4, Option.isSome_some, if_pos rfl, Option.getD_some] at hp
            rw [e1, Option.isSome_some, if_pos rfl, if_pos rfl, Option.getD_some]
            obtain ⟨b1, b2, b3⟩ := qbbn hs (if k = 35 then 32 else 31) _ _ (v ++ [a]) a3 hp
            have e4 := congrArg Prod.fst b2
            have e5 := congrArg Prod.snd b2
            exact ⟨b1.trans (a1.trans (k3.trans q1)), Prod.ext (congrArg (qlo k p (qef (qcz c).1 2) v) e4) e5, b3⟩
    · exact (qbrs q2).elim
theorem q8l (c c' : K) (h : Sm 0 tl c c') : Eqs tl c (qdc c) (qdc c') := fun hp => by
  unfold qdc at hp ⊢
  obtain ⟨t1, t2, t3⟩ := h.take hs (x := qne) (by decide) (by decide) (by decide)
  rw [t1]
  cases h1 : (qs c qne).2 with
  | true =>
    rw [h1, if_pos rfl] at hp
    rw [if_pos rfl, if_pos rfl, ← h.tpos h1]
    obtain ⟨r1, r2, r3⟩ := qbbp hs _ _ _ t2 hp
    exact ⟨r1.trans t3, r2, r3⟩
  | false =>
    rw [h1, if_neg noB] at hp
    rw [if_neg noB, if_neg noB]
    obtain ⟨t1, t2, t3⟩ := h.take hs (x := qil) (by decide) (by decide) (by decide)
    rw [t1]
    cases h1 : (qs c qil).2 with
    | true =>
      rw [h1, if_pos rfl] at hp
      rw [if_pos rfl, if_pos rfl, ← h.tpos h1]
      obtain ⟨r1, r2, r3⟩ := qzx hs _ _ _ _ t2 hp
      exact ⟨r1.trans t3, r2, r3⟩
    | false =>
      rw [h1, if_neg noB] at hp
      rw [if_neg noB, if_neg noB]
      obtain ⟨t1, t2, t3⟩ := h.take hs (x := qnk) (by decide) (by decide) (by decide)
      rw [t1]
      cases h1 : (qs c qnk).2 with
      | true =>
        rw [h1, if_pos rfl] at hp
        rw [if_pos rfl, if_pos rfl, ← h.tpos h1]
        obtain ⟨r1, r2, r3⟩ := qzx hs _ _ _ _ t2 hp
        exact ⟨r1.trans t3, r2, r3⟩
      | false =>
        rw [h1, if_neg noB] at hp
        rw [if_neg noB, if_neg noB]
        exact q5n hs (qq8 hs c c' h) hp
end
end Go.Proofs.Ytfjbmjplnmaclaa.EX
