/- Texts of this proof, joined. -/
import Derived.Test.YtfjbmjplnmaclaaObb

/- types: the reference -/
namespace Go.Proofs.Ytfjbmjplnmaclaa
open Go Go.RowKit Go.V
set_option linter.unusedVariables false
set_option linter.unusedSimpArgs false

theorem qmi {c : K} (h : (qw c).kind ≠ 0) : em (q7 c) < em c := by
  have h1 := qbj h
  rw [qbfo (qfd h).1]
  have := qwm (q7 c)
  omega
theorem qh7 {c : K} {x : List UInt8} (h : (qs c x).2 = true) : em (qs c x).1 < em c := by
  unfold qs at h ⊢
  split at h
  · rename_i h1
    rw [if_pos h1]
    exact qmi (qcv h1)
  · cases h
theorem qjr {c : K} (h : isK c [40] = true) : em (qq (qi c).1 [40]).1 < em c := by
  rw [qbfo (qw6 h)]
  cases he : (qi c).2 with
  | false => rw [qbv (qfq he), qbxh (qfq he)]; omega
  | true =>
    have h1 : isK (qi c).1 [40] = true := by rw [qn1 he]; exact h
    have h2 := qbj (qcv h1)
    have h3 := (q8 c).2.1
    have h4 := qwm (q7 (qi c).1)
    rw [qjy h1]
    simp only; omega
def qd6 (rec : K → K × N) (c : K) : K × N :=
  if c.err = 0 then
    if (qw c).kind = 1 then (q7 c, qho c 1 [])
    else if (qw c).kind = 2 then (q7 c, qho c 2 [])
    else if isK c [40] = true then (qci (qq (rec (qq (qi c).1 [40]).1).1 [41]).1, (rec (qq (qi c).1 [40]).1).2)
    else (qd3 c 5, N0)
  else (c, N0)
def qge (rec : K → K × N) : Nat → K → List N → K × List N
  | 0, c, acc => (c, acc)
  | f + 1, c, acc => if begT c = true then qge rec f (qd6 rec c).1 (acc ++ [(qd6 rec c).2]) else (c, acc)
def qf2 (rec : K → K × N) (c : K) : K × N :=
  if (qw c).kind = 2 then ((qge rec (em (q7 c) + 1) (q7 c) []).1, qho c 2 (qge rec (em (q7 c) + 1) (q7 c) []).2) else qd6 rec c
def qee : Nat → K → K × N
  | 0, c => (c, N0)
  | f + 1, c =>
    if (qs (qf2 (qee f) (qi c).1).1 [45, 62]).2 = true then
      (qci (qee f (qs (qf2 (qee f) (qi c).1).1 [45, 62]).1).1, qkc (qf2 (qee f) (qi c).1).2 (qee f (qs (qf2 (qee f) (qi c).1).1 [45, 62]).1).2)
    else (qci (qf2 (qee f) (qi c).1).1, (qf2 (qee f) (qi c).1).2)
section
variable {rec : K → K × N} (hm : ∀ c, Mon c (rec c).1)
include hm
theorem qnw (c : K) : Mon (qq (qi c).1 [40]).1 (qci (qq (rec (qq (qi c).1 [40]).1).1 [41]).1) := ((hm _).trans (qr _ _)).trans (qbh _)
theorem qiw (c : K) : Mon c (qd6 rec c).1 := by
  unfold qd6
  split
  · split
    · exact qb1 c
    · split
      · exact qb1 c
      · split
        · exact ((q8 c).trans (qr _ _)).trans (qnw hm c)
        · exact qd9 c 5
  · exact Mon.refl c
theorem qk0 {c : K} (h : begT c = true) : em (qd6 rec c).1 < em c := by
  unfold qd6
  rw [if_pos (q5c h)]
  split
  · exact qmi (by omega)
  · split
    · exact qmi (by omega)
    · rename_i h1 h2
      have hk : isK c [40] = true := by simpa only [begT, decide_eq_false h1, decide_eq_false h2, Bool.false_or] using h
      rw [if_pos hk]
      have h3 := qjr hk
      have h4 := (qnw hm c).em
      simp only; omega
theorem qm2 : ∀ (f : Nat) (c : K) (acc : List N), Mon c (qge rec f c acc).1
  | 0, c, acc => Mon.refl c
  | f + 1, c, acc => by
    rw [qge]
    split
    · exact (qiw hm c).trans (qm2 f _ _)
    · exact Mon.refl c
theorem qpw (c : K) : Mon c (qf2 rec c).1 := by
  unfold qf2
  split
  · exact (qb1 c).trans (qm2 hm _ _ _)
  · exact qiw hm c
end
theorem qd0 : ∀ (f : Nat) (c : K), Mon c (qee f c).1
  | 0, c => Mon.refl c
  | f + 1, c => by
    have hr := (q8 c).trans (qpw (qd0 f) (qi c).1)
    rw [qee]
    split
    · exact ((hr.trans (qz _ _)).trans (qd0 f _)).trans (qbh _)
    · exact hr.trans (qbh _)

/-! The program. -/

def qhi (rec : K → K × N) (c : K) : K × N := ((qd6 rec (kindK c 2).1).1, qtc (qef c 2) (qd6 rec (kindK c 2).1).2)
def qhw (rec : K → K × N) : Nat → K → List N → K × List N
  | 0, c, acc => (c, acc)
  | f + 1, c, acc =>
    if (qs (qhi rec c).1 [44]).2 = true then qhw rec f (qs (qhi rec c).1 [44]).1 (acc ++ [(qhi rec c).2])
    else ((qhi rec c).1, acc ++ [(qhi rec c).2])
def qh0 (rec : K → K × N) (c : K) : K × List N :=
  if isK c [41] = true then (c, []) else qhw rec (em c + 2) c []
def qgz (rec : K → K × N) (c : K) : K × List N :=
  if qhl c [61, 62] = true then
    if (qs c [40]).2 = true then ((qq (qq (qh0 rec (qs c [40]).1).1 [41]).1 [61, 62]).1, (qh0 rec (qs c [40]).1).2)
    else ((qq (qhi rec c).1 [61, 62]).1, [(qhi rec c).2])
  else (c, [])
section
variable {rec : K → K × N} (hm : ∀ c, Mon c (rec c).1)
include hm
theorem qif (c : K) : Mon c (qhi rec c).1 := (qb8 c 2).trans (qiw hm _)
theorem qk4 : ∀ (f : Nat) (c : K) (acc : List N), Mon c (qhw rec f c acc).1
  | 0, c, acc => Mon.refl c
  | f + 1, c, acc => by
    rw [qhw]
    split
    · exact ((qif hm c).trans (qz _ _)).trans (qk4 f _ _)
    · exact qif hm c
theorem qsx (c : K) : Mon c (qh0 rec c).1 := by
  unfold qh0
  split
  · exact Mon.refl c
  · exact qk4 hm _ _ _
theorem qmr (c : K) : Mon c (qgz rec c).1 := by
  unfold qgz
  split
  · split
    · exact (((qz c _).trans (qsx hm _)).trans (qr _ _)).trans (qr _ _)
    · exact (qif hm c).trans (qr _ _)
  · exact Mon.refl c
end
def qsm (f : Nat) (c : K) : K × N := ((qee f (qgz (qee f) c).1).1, qqt (qw c).pos (qgz (qee f) c).2 (qee f (qgz (qee f) c).1).2)

/-- The program's state is the reference's, and so is what is read, if there is something; else something failed. -/
def qdr {α : Type} (p : K × Option α) (r : K × α) : Prop := p.1 = r.1 ∧ (∀ n, p.2 = some n → n = r.2) ∧ (p.2 = none → p.1.err ≠ 0)
theorem qi0 {rec : K → K × N} {c : K} (h : c.err ≠ 0) : qd6 rec c = (c, N0) := if_neg h
theorem qwi {rec : K → K × N} {c : K} (h : c.err ≠ 0) (f : Nat) (acc : List N) : qge rec f c acc = (c, acc) := by
  cases f with
  | zero => rfl
  | succ f => rw [qge, if_neg (by rw [q3h h]; simp)]
theorem qpa {rec : K → K × N} {c : K} (h : c.err ≠ 0) : qf2 rec c = (c, N0) := by
  rw [qf2, qgo h, if_neg (by decide), qi0 h]
theorem qhp (f : Nat) {c : K} (h : c.err ≠ 0) : qee f c = (c, N0) := by
  cases f with
  | zero => rfl
  | succ f => rw [qee, qjw h, qpa h, qek h, if_neg (by simp), qck h]
section
variable {rp : K → K × Option N} {rr : K → K × N} {b : Nat} (hx : ∀ c : K, c.err ≠ 0 → (rr c).1 = c) (ih : ∀ c, em c < b → qdr (rp c) (rr c))
include hx ih
theorem qib {c : K} (hr : em c ≤ b) : qdr (qbo rp c) (qd6 rr c) := by
  by_cases h0 : c.err = 0
  · unfold qbo qd6
    rw [if_pos h0]
    by_cases h1 : (qw c).kind = 1
    · rw [if_pos h1, if_pos h1]; exact ⟨rfl, (fun n h => by cases h; rfl), (fun h => by cases h)⟩
    · rw [if_neg h1, if_neg h1]
      by_cases h2 : (qw c).kind = 2
      · rw [if_pos h2, if_pos h2]; exact ⟨rfl, (fun n h => by cases h; rfl), (fun h => by cases h)⟩
      · rw [if_neg h2, if_neg h2]
        by_cases hk : isK c [40] = true
        · rw [if_pos hk, if_pos hk]
          have hem := qjr hk
          by_cases he : (qi c).2 = true
          · rw [if_pos he]
            have hk' : isK (qi c).1 [40] = true := by rw [qn1 he]; exact hk
            rw [qjy hk'] at hem ⊢
            simp only at hem ⊢
            obtain ⟨a1, a2, a3⟩ := ih (q7 (qi c).1) (by omega)
            rw [← a1]
            generalize rp (q7 (qi c).1) = r at *
            obtain ⟨d, o⟩ := r
            simp only at a1 a2 a3 ⊢
            cases o with
            | none =>
              have h3 := a3 rfl
              rw [if_neg (by simp), qbv h3, qck h3]
              exact ⟨rfl, (fun n h => by cases h), fun _ => h3⟩
            | some n =>
              rw [if_pos (by rfl)]
              by_cases hw : (qq d [41]).2 = true
              · rw [if_pos hw]
                exact ⟨rfl, fun m h => a2 m h, (fun h => by cases h)⟩
              · rw [if_neg hw]
                have h3 := qdd (by simpa using hw)
                exact ⟨rfl, (fun n h => by cases h), fun _ => by simp only; rw [qck h3]; exact h3⟩
          · have he' : (qi c).2 = false := by simpa using he
            have h1 := qfq he'
            rw [if_neg he]
            rw [qbv h1] at hem ⊢
            simp only at hem ⊢
            rw [hx _ h1, qbv h1, qck h1]
            exact ⟨rfl, (fun n h => by cases h), fun _ => h1⟩
        · rw [if_neg hk, if_neg hk]
          exact ⟨rfl, (fun n h => by cases h), fun _ => qfn c⟩
  · rw [qi0 h0, qbo, qgo h0, if_neg (by decide), if_neg (by decide), if_neg (by rw [qsk h0]; simp), qe7 h0]
    exact ⟨rfl, (fun n h => by cases h), fun _ => h0⟩
theorem qp7 (hp : ∀ c, Mon c (rp c).1) (hm : ∀ c, Mon c (rr c).1) : ∀ (f g : Nat) (c : K) (acc : List N), rest c < f → em c < g → em c ≤ b → qdr (qdk rp f c acc) (qge rr g c acc)
  | 0, _, _, _ => fun h _ _ => by omega
  | _, 0, _, _ => fun _ h _ => by omega
  | f + 1, g + 1, c, acc => fun hf hg hb => by
    rw [qdk, qge]
    by_cases hk : begT c = true
    · rw [if_pos hk, if_pos hk]
      obtain ⟨a1, a2, a3⟩ := qib hx ih hb
      have hl := qk0 hm hk
      rw [← a1] at hl ⊢
      cases ho : (qbo rp c).2 with
      | none =>
        have h3 := a3 ho
        rw [if_neg (by simp), qwi h3]
        exact ⟨rfl, (fun n h => by cases h), fun _ => h3⟩
      | some n =>
        rw [if_pos (by rfl), ← a2 n ho]
        exact qp7 hp hm f g _ _ (by have := qdv hp (c := c) (by rw [ho]; rfl); omega) (by omega) (by omega)
    · rw [if_neg hk, if_neg hk]
      exact ⟨rfl, (fun l h => by cases h; rfl), (fun h => by cases h)⟩
theorem q2x (hp : ∀ c, Mon c (rp c).1) (hm : ∀ c, Mon c (rr c).1) {c : K} (hr : em c ≤ b) : qdr (qb6 rp c) (qf2 rr c) := by
  unfold qb6 qf2
  by_cases hk : (qw c).kind = 2
  · rw [if_pos hk, if_pos hk]
    have h1 := qbj (c := c) (by omega)
    have h2 := qmi (c := c) (by omega)
    obtain ⟨a1, a2, a3⟩ := qp7 hx ih hp hm (rest c + 1) (em (q7 c) + 1) (q7 c) [] (by omega) (by omega) (by omega)
    refine ⟨a1, fun n h => ?_, fun h => a3 (by simpa using h)⟩
    obtain ⟨l, hl, rfl⟩ := Option.map_eq_some_iff.1 h
    rw [a2 l hl]
  · rw [if_neg hk, if_neg hk]
    exact qib hx ih hr
theorem qr6 {c : K} (hr : em c ≤ b) : qdr (qbi rp c) (qhi rr c) := by
  have h1 := (qb8 c 2).em
  obtain ⟨a1, a2, a3⟩ := qib hx ih (c := (kindK c 2).1) (by omega)
  unfold qbi qhi
  by_cases hk : (kindK c 2).2 = true
  · rw [if_pos hk]
    refine ⟨a1, fun n h => ?_, fun h => a3 (by simpa using h)⟩
    obtain ⟨m, hm, rfl⟩ := Option.map_eq_some_iff.1 h
    rw [a2 m hm]
  · rw [if_neg hk]
    have h2 := qlk (c := c) (k := 2) (by simpa using hk)
    rw [qi0 h2]
    exact ⟨rfl, (fun n h => by cases h), fun _ => h2⟩
end
theorem qi7 : ∀ (f : Nat) (c : K), em c < f → qdr (qbu f c) (qee f c)
  | 0, _ => fun h => by omega
  | f + 1, c => fun hf => by
    have ih := qi7 f
    have hx : ∀ c : K, c.err ≠ 0 → (qee f c).1 = c := fun c h => by rw [qhp f h]
    rw [qbu, qee]
    by_cases he : (qi c).2 = true
    · have h1 := (q8 c).em
      rw [if_pos he]
      obtain ⟨a1, a2, a3⟩ := q2x hx ih (qcn f) (qd0 f) (c := (qi c).1) (by omega)
      have hl := (qpw (qd0 f) (qi c).1).em
      rw [← a1] at hl ⊢
      cases ho : (qb6 (qbu f) (qi c).1).2 with
      | none =>
        have h3 := a3 ho
        rw [if_neg (by simp), qek h3, if_neg (by simp)]
        exact ⟨rfl, (fun n h => by cases h), fun _ => by simp only; rw [qck h3]; exact h3⟩
      | some n =>
        rw [if_pos (by rfl), ← a2 n ho]
        by_cases ht : (qs (qb6 (qbu f) (qi c).1).1 [45, 62]).2 = true
        · rw [if_pos ht, if_pos ht]
          have h5 := qh7 ht
          obtain ⟨b1, b2, b3⟩ := ih (qs (qb6 (qbu f) (qi c).1).1 [45, 62]).1 (by omega)
          refine ⟨by simp only; rw [b1], fun m h => ?_, fun h => ?_⟩
          · obtain ⟨q, hq, rfl⟩ := Option.map_eq_some_iff.1 h
            rw [b2 q hq]; rfl
          · have h6 := b3 (by simpa using h)
            simp only
            rw [qck h6]; exact h6
        · rw [if_neg ht, if_neg ht]
          exact ⟨rfl, (fun m h => by cases h; rfl), (fun h => by cases h)⟩
    · have he' : (qi c).2 = false := by simpa using he
      have h1 := qfq he'
      rw [if_neg he, qpa h1, qek h1, if_neg (by simp), qck h1]
      exact ⟨rfl, (fun n h => by cases h), fun _ => h1⟩
section
variable {rp : K → K × Option N} {rr : K → K × N} {b : Nat} (hx : ∀ c : K, c.err ≠ 0 → (rr c).1 = c) (ih : ∀ c, em c < b → qdr (rp c) (rr c)) (hp : ∀ c, Mon c (rp c).1) (hm : ∀ c, Mon c (rr c).1)
include hx ih hp hm
theorem qnb : ∀ (f g : Nat) (c : K) (acc : List N), rest c < f → em c < g → em c ≤ b → qdr (qd7 rp true f c acc) (qhw rr g c acc)
  | 0, _, _, _ => fun h _ _ => by omega
  | _, 0, _, _ => fun _ h _ => by omega
  | f + 1, g + 1, c, acc => fun hf hg hb => by
    rw [qd7, qhw]
    obtain ⟨a1, a2, a3⟩ := qr6 hx ih hb
    have hl := (qif hm c).em
    rw [← a1] at hl ⊢
    cases ho : (qbi rp c).2 with
    | none =>
      have h3 := a3 ho
      rw [if_neg (by simp), qek h3, if_neg (by simp)]
      exact ⟨rfl, (fun n h => by cases h), fun _ => h3⟩
    | some n =>
      rw [if_pos (by rfl), Bool.true_and, ← a2 n ho]
      by_cases ht : (qs (qbi rp c).1 [44]).2 = true
      · rw [if_pos ht, if_pos ht]
        have h5 := qh7 ht
        have h6 := qix hp (c := c) (by rw [ho]; rfl)
        have h7 := (qz (qbi rp c).1 [44]).2.1
        exact qnb f g _ _ (by omega) (by omega) (by omega)
      · rw [if_neg ht, if_neg ht]
        exact ⟨rfl, (fun l h => by cases h; rfl), (fun h => by cases h)⟩
/-- The ends of a context. -/
theorem qo8 {c : K} (hg : ∀ t ∈ c.l, t.kind ≠ 0) (hr : em c ≤ b) : qdr (q9 rp c) (qgz rr c) := by
  unfold q9 qgz
  by_cases ha : qhl c [61, 62] = true
  · rw [if_pos ha, if_pos ha]
    unfold qe9
    by_cases ht : (qs c [40]).2 = true
    · rw [if_pos ht, ht, Bool.true_and]
      have h5 := qh7 ht
      have hB : qdr (if isK (qs c [40]).1 [41] = true then ((qs c [40]).1, some []) else qd7 rp true (rest (qs c [40]).1 + 1) (qs c [40]).1 []) (qh0 rr (qs c [40]).1) := by
        unfold qh0
        split
        · exact ⟨rfl, (fun l h => by cases h; rfl), (fun h => by cases h)⟩
        · exact qnb hx ih hp hm _ _ _ _ (by omega) (by omega) (by omega)
      obtain ⟨a1, a2, a3⟩ := hB
      generalize (if isK (qs c [40]).1 [41] = true then ((qs c [40]).1, some []) else qd7 rp true (rest (qs c [40]).1 + 1) (qs c [40]).1 []) = p at *
      rw [← a1]
      unfold qej
      cases ho : p.2 with
      | none =>
        have h3 := a3 ho
        rw [if_neg (by simp), qbv h3, qbv h3]
        exact ⟨rfl, (fun n h => by cases h), fun _ => h3⟩
      | some l =>
        rw [if_pos (by rfl), if_pos rfl, ← a2 l ho]
        by_cases hw : (qq p.1 [41]).2 = true
        · rw [if_pos hw]
          by_cases hw2 : (qq (qq p.1 [41]).1 [61, 62]).2 = true
          · rw [if_pos hw2]; exact ⟨rfl, (fun m h => by cases h; rfl), (fun h => by cases h)⟩
          · rw [if_neg hw2]
            exact ⟨rfl, (fun n h => by cases h), fun _ => qdd (by simpa using hw2)⟩
        · rw [if_neg hw]
          have h3 := qdd (c := p.1) (x := [41]) (by simpa using hw)
          rw [qbv h3]
          exact ⟨rfl, (fun n h => by cases h), fun _ => h3⟩
    · have ht' : (qs c [40]).2 = false := by simpa using ht
      have hsm := qc8 ht'
      rw [if_neg ht, ht', hsm, Bool.false_and, if_neg (by simp)]
      unfold qej
      obtain ⟨a1, a2, a3⟩ := qr6 hx ih hr
      rw [qd7, ← a1]
      cases ho : (qbi rp c).2 with
      | none =>
        have h3 := a3 ho
        rw [if_neg (by simp), if_neg (by simp), qbv h3]
        exact ⟨rfl, (fun n h => by cases h), fun _ => h3⟩
      | some n =>
        rw [if_pos (by rfl), Bool.false_and, if_neg (by simp), if_pos (by rfl), if_neg (by simp), ← a2 n ho]
        simp only [Option.getD_some, List.nil_append]
        by_cases hw : (qq (qbi rp c).1 [61, 62]).2 = true
        · rw [if_pos hw]; exact ⟨rfl, (fun m h => by cases h; rfl), (fun h => by cases h)⟩
        · rw [if_neg hw]
          exact ⟨rfl, (fun n h => by cases h), fun _ => qdd (by simpa using hw)⟩
  · rw [if_neg ha, if_neg ha]
    by_cases he : c.err = 0
    · have hf : failT c = false := by
        unfold failT
        by_cases hl : c.at' < c.l.length
        · have hk : (qw c).kind ≠ 0 := by rw [qn4 he (by omega)]; exact hg _ (qbcj hl)
          rw [qzu he (by omega), decide_eq_false hk]; rfl
        · rw [qu8 he (by omega)]; rfl
      rw [hf]
      exact ⟨rfl, (fun m h => by cases h; rfl), (fun h => by cases h)⟩
    · have hf : failT c = true := by
        unfold failT
        rw [qo4 he, qgo he]
        simp [he, T0]
      rw [hf]
      exact ⟨rfl, (fun m h => by cases h), fun _ => he⟩
end
theorem q2a (f : Nat) (c : K) (hg : ∀ t ∈ c.l, t.kind ≠ 0) (hr : em c < f) : qdr (qed f c) (qsm f c) := by
  have hx : ∀ c : K, c.err ≠ 0 → (qee f c).1 = c := fun c h => by rw [qhp f h]
  obtain ⟨a1, a2, a3⟩ := qo8 hx (qi7 f) (qcn f) (qd0 f) hg (b := f) (by omega)
  have hl := (qmr (qd0 f) c).em
  unfold qed qsm
  rw [← a1] at hl ⊢
  cases ho : (q9 (qbu f) c).2 with
  | none =>
    have h3 := a3 ho
    rw [if_neg (by simp), qhp f h3]
    exact ⟨rfl, (fun n h => by cases h), fun _ => h3⟩
  | some l =>
    rw [if_pos (by rfl), ← a2 l ho]
    obtain ⟨b1, b2, b3⟩ := qi7 f (q9 (qbu f) c).1 (by omega)
    refine ⟨b1, fun m h => ?_, fun h => b3 (by simpa using h)⟩
    obtain ⟨q, hq, rfl⟩ := Option.map_eq_some_iff.1 h
    rw [b2 q hq]; rfl
theorem qkx : ∀ {l : List T} {t : T}, t ∈ qfb l → t.kind ≠ 0
  | [], t, h => by simp [qfb] at h
  | u :: r, t, h => by
    rw [qfb] at h
    split at h
    · simp at h
    · rename_i hk
      rcases List.mem_cons.1 h with rfl | h
      · exact hk
      · exact qkx h
end Go.Proofs.Ytfjbmjplnmaclaa
