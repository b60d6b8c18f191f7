/- Texts of this proof, joined. -/
import Derived.Test.YtmekebfgmjaenaaPbc

/- types: the reference -/
namespace Go.Proofs.Ytmekebfgmjaenaa
open Go Go.RowKit Go.V
set_option linter.unusedVariables false
set_option linter.unusedSimpArgs false

theorem qkj {c : K} (h : (qw c).kind ≠ 0) : em (qs c) < em c := by
  have h1 := qbh h
  rw [q9x (qfm h).1]
  have := qxr (qs c)
  omega
theorem qhm {c : K} {x : List UInt8} (h : (qp c x).2 = true) : em (qp c x).1 < em c := by
  unfold qp at h ⊢
  split at h
  · rename_i h1
    rw [if_pos h1]
    exact qkj (qcd h1)
  · cases h
theorem qim {c : K} (h : isK c [40] = true) : em (qr (qe c).1 [40]).1 < em c := by
  rw [q9x (qt7 h)]
  cases he : (qe c).2 with
  | false => rw [qbz (qe3 he), qbjf (qe3 he)]; omega
  | true =>
    have h1 : isK (qe c).1 [40] = true := by rw [qlv he]; exact h
    have h2 := qbh (qcd h1)
    have h3 := (qx c).2.1
    have h4 := qxr (qs (qe c).1)
    rw [qgb h1]
    simp only; omega
def qdy (rec : K → K × N) (c : K) : K × N :=
  if c.err = 0 then
    if (qw c).kind = 1 then (qs c, qhg c 1 [])
    else if (qw c).kind = 2 then (qs c, qhg c 2 [])
    else if isK c [40] = true then (qbv (qr (rec (qr (qe c).1 [40]).1).1 [41]).1, (rec (qr (qe c).1 [40]).1).2)
    else (qee c 5, N0)
  else (c, N0)
def qfg (rec : K → K × N) : Nat → K → List N → K × List N
  | 0, c, acc => (c, acc)
  | f + 1, c, acc => if begT c = true then qfg rec f (qdy rec c).1 (acc ++ [(qdy rec c).2]) else (c, acc)
def qe8 (rec : K → K × N) (c : K) : K × N :=
  if (qw c).kind = 2 then ((qfg rec (em (qs c) + 1) (qs c) []).1, qhg c 2 (qfg rec (em (qs c) + 1) (qs c) []).2) else qdy rec c
def qdt : Nat → K → K × N
  | 0, c => (c, N0)
  | f + 1, c =>
    if (qp (qe8 (qdt f) (qe c).1).1 [45, 62]).2 = true then
      (qbv (qdt f (qp (qe8 (qdt f) (qe c).1).1 [45, 62]).1).1, qiy (qe8 (qdt f) (qe c).1).2 (qdt f (qp (qe8 (qdt f) (qe c).1).1 [45, 62]).1).2)
    else (qbv (qe8 (qdt f) (qe c).1).1, (qe8 (qdt f) (qe c).1).2)
section
variable {rec : K → K × N} (hm : ∀ c, Mon c (rec c).1)
include hm
theorem qlm (c : K) : Mon (qr (qe c).1 [40]).1 (qbv (qr (rec (qr (qe c).1 [40]).1).1 [41]).1) := ((hm _).trans (qo _ _)).trans (qbg _)
theorem qhx (c : K) : Mon c (qdy rec c).1 := by
  unfold qdy
  split
  · split
    · exact qbm c
    · split
      · exact qbm c
      · split
        · exact ((qx c).trans (qo _ _)).trans (qlm hm c)
        · exact qec c 5
  · exact Mon.refl c
theorem qq2 {c : K} (h : begT c = true) : em (qdy rec c).1 < em c := by
  unfold qdy
  rw [if_pos (q1f h)]
  split
  · exact qkj (by omega)
  · split
    · exact qkj (by omega)
    · rename_i h1 h2
      have hk : isK c [40] = true := by simpa only [begT, decide_eq_false h1, decide_eq_false h2, Bool.false_or] using h
      rw [if_pos hk]
      have h3 := qim hk
      have h4 := (qlm hm c).em
      simp only; omega
theorem qkr : ∀ (f : Nat) (c : K) (acc : List N), Mon c (qfg rec f c acc).1
  | 0, c, acc => Mon.refl c
  | f + 1, c, acc => by
    rw [qfg]
    split
    · exact (qhx hm c).trans (qkr f _ _)
    · exact Mon.refl c
theorem qmn (c : K) : Mon c (qe8 rec c).1 := by
  unfold qe8
  split
  · exact (qbm c).trans (qkr hm _ _ _)
  · exact qhx hm c
end
theorem qd5 : ∀ (f : Nat) (c : K), Mon c (qdt f c).1
  | 0, c => Mon.refl c
  | f + 1, c => by
    have hr := (qx c).trans (qmn (qd5 f) (qe c).1)
    rw [qdt]
    split
    · exact ((hr.trans (q8 _ _)).trans (qd5 f _)).trans (qbg _)
    · exact hr.trans (qbg _)

/-! The program. -/

def qgm (rec : K → K × N) (c : K) : K × N := ((qdy rec (kindK c 2).1).1, qp2 (qhh c 2) (qdy rec (kindK c 2).1).2)
def qgu (rec : K → K × N) : Nat → K → List N → K × List N
  | 0, c, acc => (c, acc)
  | f + 1, c, acc =>
    if (qp (qgm rec c).1 [44]).2 = true then qgu rec f (qp (qgm rec c).1 [44]).1 (acc ++ [(qgm rec c).2])
    else ((qgm rec c).1, acc ++ [(qgm rec c).2])
def qgv (rec : K → K × N) (c : K) : K × List N :=
  if isK c [41] = true then (c, []) else qgu rec (em c + 2) c []
def qg0 (rec : K → K × N) (c : K) : K × List N :=
  if qgp c [61, 62] = true then
    if (qp c [40]).2 = true then ((qr (qr (qgv rec (qp c [40]).1).1 [41]).1 [61, 62]).1, (qgv rec (qp c [40]).1).2)
    else ((qr (qgm rec c).1 [61, 62]).1, [(qgm rec c).2])
  else (c, [])
section
variable {rec : K → K × N} (hm : ∀ c, Mon c (rec c).1)
include hm
theorem qg5 (c : K) : Mon c (qgm rec c).1 := (qdc c 2).trans (qhx hm _)
theorem qjy : ∀ (f : Nat) (c : K) (acc : List N), Mon c (qgu rec f c acc).1
  | 0, c, acc => Mon.refl c
  | f + 1, c, acc => by
    rw [qgu]
    split
    · exact ((qg5 hm c).trans (q8 _ _)).trans (qjy f _ _)
    · exact qg5 hm c
theorem qp3 (c : K) : Mon c (qgv rec c).1 := by
  unfold qgv
  split
  · exact Mon.refl c
  · exact qjy hm _ _ _
theorem qk5 (c : K) : Mon c (qg0 rec c).1 := by
  unfold qg0
  split
  · split
    · exact (((q8 c _).trans (qp3 hm _)).trans (qo _ _)).trans (qo _ _)
    · exact (qg5 hm c).trans (qo _ _)
  · exact Mon.refl c
end
def qq9 (f : Nat) (c : K) : K × N := ((qdt f (qg0 (qdt f) c).1).1, qoi (qw c).pos (qg0 (qdt f) c).2 (qdt f (qg0 (qdt f) c).1).2)

/-- The program's state is the reference's, and so is what is read, if there is something; else something failed. -/
def qdl {α : Type} (p : K × Option α) (r : K × α) : Prop := p.1 = r.1 ∧ (∀ n, p.2 = some n → n = r.2) ∧ (p.2 = none → p.1.err ≠ 0)
theorem qh4 {rec : K → K × N} {c : K} (h : c.err ≠ 0) : qdy rec c = (c, N0) := if_neg h
theorem qrg {rec : K → K × N} {c : K} (h : c.err ≠ 0) (f : Nat) (acc : List N) : qfg rec f c acc = (c, acc) := by
  cases f with
  | zero => rfl
  | succ f => rw [qfg, if_neg (by rw [qbam h]; simp)]
theorem qnd {rec : K → K × N} {c : K} (h : c.err ≠ 0) : qe8 rec c = (c, N0) := by
  rw [qe8, qft h, if_neg (by decide), qh4 h]
theorem qko (f : Nat) {c : K} (h : c.err ≠ 0) : qdt f c = (c, N0) := by
  cases f with
  | zero => rfl
  | succ f => rw [qdt, qih h, qnd h, qei h, if_neg (by simp), qb3 h]
section
variable {rp : K → K × Option N} {rr : K → K × N} {b : Nat} (hx : ∀ c : K, c.err ≠ 0 → (rr c).1 = c) (ih : ∀ c, em c < b → qdl (rp c) (rr c))
include hx ih
theorem qi5 {c : K} (hr : em c ≤ b) : qdl (qbr rp c) (qdy rr c) := by
  by_cases h0 : c.err = 0
  · unfold qbr qdy
    rw [if_pos h0]
    by_cases h1 : (qw c).kind = 1
    · rw [if_pos h1, if_pos h1]; exact ⟨rfl, (fun n h => by cases h; rfl), (fun h => by cases h)⟩
    · rw [if_neg h1, if_neg h1]
      by_cases h2 : (qw c).kind = 2
      · rw [if_pos h2, if_pos h2]; exact ⟨rfl, (fun n h => by cases h; rfl), (fun h => by cases h)⟩
      · rw [if_neg h2, if_neg h2]
        by_cases hk : isK c [40] = true
        · rw [if_pos hk, if_pos hk]
          have hem := qim hk
          by_cases he : (qe c).2 = true
          · rw [if_pos he]
            have hk' : isK (qe c).1 [40] = true := by rw [qlv he]; exact hk
            rw [qgb hk'] at hem ⊢
            simp only at hem ⊢
            obtain ⟨a1, a2, a3⟩ := ih (qs (qe c).1) (by omega)
            rw [← a1]
            generalize rp (qs (qe c).1) = r at *
            obtain ⟨d, o⟩ := r
            simp only at a1 a2 a3 ⊢
            cases o with
            | none =>
              have h3 := a3 rfl
              rw [if_neg (by simp), qbz h3, qb3 h3]
              exact ⟨rfl, (fun n h => by cases h), fun _ => h3⟩
            | some n =>
              rw [if_pos (by rfl)]
              by_cases hw : (qr d [41]).2 = true
              · rw [if_pos hw]
                exact ⟨rfl, fun m h => a2 m h, (fun h => by cases h)⟩
              · rw [if_neg hw]
                have h3 := qdh (by simpa using hw)
                exact ⟨rfl, (fun n h => by cases h), fun _ => by simp only; rw [qb3 h3]; exact h3⟩
          · have he' : (qe c).2 = false := by simpa using he
            have h1 := qe3 he'
            rw [if_neg he]
            rw [qbz h1] at hem ⊢
            simp only at hem ⊢
            rw [hx _ h1, qbz h1, qb3 h1]
            exact ⟨rfl, (fun n h => by cases h), fun _ => h1⟩
        · rw [if_neg hk, if_neg hk]
          exact ⟨rfl, (fun n h => by cases h), fun _ => qg6 c⟩
  · rw [qh4 h0, qbr, qft h0, if_neg (by decide), if_neg (by decide), if_neg (by rw [qpu h0]; simp), qev h0]
    exact ⟨rfl, (fun n h => by cases h), fun _ => h0⟩
theorem ql5 (hp : ∀ c, Mon c (rp c).1) (hm : ∀ c, Mon c (rr c).1) : ∀ (f g : Nat) (c : K) (acc : List N), rest c < f → em c < g → em c ≤ b → qdl (qc2 rp f c acc) (qfg rr g c acc)
  | 0, _, _, _ => fun h _ _ => by omega
  | _, 0, _, _ => fun _ h _ => by omega
  | f + 1, g + 1, c, acc => fun hf hg hb => by
    rw [qc2, qfg]
    by_cases hk : begT c = true
    · rw [if_pos hk, if_pos hk]
      obtain ⟨a1, a2, a3⟩ := qi5 hx ih hb
      have hl := qq2 hm hk
      rw [← a1] at hl ⊢
      cases ho : (qbr rp c).2 with
      | none =>
        have h3 := a3 ho
        rw [if_neg (by simp), qrg h3]
        exact ⟨rfl, (fun n h => by cases h), fun _ => h3⟩
      | some n =>
        rw [if_pos (by rfl), ← a2 n ho]
        exact ql5 hp hm f g _ _ (by have := qex hp (c := c) (by rw [ho]; rfl); omega) (by omega) (by omega)
    · rw [if_neg hk, if_neg hk]
      exact ⟨rfl, (fun l h => by cases h; rfl), (fun h => by cases h)⟩
theorem qxw (hp : ∀ c, Mon c (rp c).1) (hm : ∀ c, Mon c (rr c).1) {c : K} (hr : em c ≤ b) : qdl (qbx rp c) (qe8 rr c) := by
  unfold qbx qe8
  by_cases hk : (qw c).kind = 2
  · rw [if_pos hk, if_pos hk]
    have h1 := qbh (c := c) (by omega)
    have h2 := qkj (c := c) (by omega)
    obtain ⟨a1, a2, a3⟩ := ql5 hx ih hp hm (rest c + 1) (em (qs c) + 1) (qs c) [] (by omega) (by omega) (by omega)
    refine ⟨a1, fun n h => ?_, fun h => a3 (by simpa using h)⟩
    obtain ⟨l, hl, rfl⟩ := Option.map_eq_some_iff.1 h
    rw [a2 l hl]
  · rw [if_neg hk, if_neg hk]
    exact qi5 hx ih hr
theorem qor {c : K} (hr : em c ≤ b) : qdl (qbi rp c) (qgm rr c) := by
  have h1 := (qdc c 2).em
  obtain ⟨a1, a2, a3⟩ := qi5 hx ih (c := (kindK c 2).1) (by omega)
  unfold qbi qgm
  by_cases hk : (kindK c 2).2 = true
  · rw [if_pos hk]
    refine ⟨a1, fun n h => ?_, fun h => a3 (by simpa using h)⟩
    obtain ⟨m, hm, rfl⟩ := Option.map_eq_some_iff.1 h
    rw [a2 m hm]
  · rw [if_neg hk]
    have h2 := qw4 (c := c) (k := 2) (by simpa using hk)
    rw [qh4 h2]
    exact ⟨rfl, (fun n h => by cases h), fun _ => h2⟩
end
theorem qm0 : ∀ (f : Nat) (c : K), em c < f → qdl (qbt f c) (qdt f c)
  | 0, _ => fun h => by omega
  | f + 1, c => fun hf => by
    have ih := qm0 f
    have hx : ∀ c : K, c.err ≠ 0 → (qdt f c).1 = c := fun c h => by rw [qko f h]
    rw [qbt, qdt]
    by_cases he : (qe c).2 = true
    · have h1 := (qx c).em
      rw [if_pos he]
      obtain ⟨a1, a2, a3⟩ := qxw hx ih (qfx f) (qd5 f) (c := (qe c).1) (by omega)
      have hl := (qmn (qd5 f) (qe c).1).em
      rw [← a1] at hl ⊢
      cases ho : (qbx (qbt f) (qe c).1).2 with
      | none =>
        have h3 := a3 ho
        rw [if_neg (by simp), qei h3, if_neg (by simp)]
        exact ⟨rfl, (fun n h => by cases h), fun _ => by simp only; rw [qb3 h3]; exact h3⟩
      | some n =>
        rw [if_pos (by rfl), ← a2 n ho]
        by_cases ht : (qp (qbx (qbt f) (qe c).1).1 [45, 62]).2 = true
        · rw [if_pos ht, if_pos ht]
          have h5 := qhm ht
          obtain ⟨b1, b2, b3⟩ := ih (qp (qbx (qbt f) (qe c).1).1 [45, 62]).1 (by omega)
          refine ⟨by simp only; rw [b1], fun m h => ?_, fun h => ?_⟩
          · obtain ⟨q, hq, rfl⟩ := Option.map_eq_some_iff.1 h
            rw [b2 q hq]; rfl
          · have h6 := b3 (by simpa using h)
            simp only
            rw [qb3 h6]; exact h6
        · rw [if_neg ht, if_neg ht]
          exact ⟨rfl, (fun m h => by cases h; rfl), (fun h => by cases h)⟩
    · have he' : (qe c).2 = false := by simpa using he
      have h1 := qe3 he'
      rw [if_neg he, qnd h1, qei h1, if_neg (by simp), qb3 h1]
      exact ⟨rfl, (fun n h => by cases h), fun _ => h1⟩
section
variable {rp : K → K × Option N} {rr : K → K × N} {b : Nat} (hx : ∀ c : K, c.err ≠ 0 → (rr c).1 = c) (ih : ∀ c, em c < b → qdl (rp c) (rr c)) (hp : ∀ c, Mon c (rp c).1) (hm : ∀ c, Mon c (rr c).1)
include hx ih hp hm
theorem qkw : ∀ (f g : Nat) (c : K) (acc : List N), rest c < f → em c < g → em c ≤ b → qdl (qdi rp true f c acc) (qgu rr g c acc)
  | 0, _, _, _ => fun h _ _ => by omega
  | _, 0, _, _ => fun _ h _ => by omega
  | f + 1, g + 1, c, acc => fun hf hg hb => by
    rw [qdi, qgu]
    obtain ⟨a1, a2, a3⟩ := qor hx ih hb
    have hl := (qg5 hm c).em
    rw [← a1] at hl ⊢
    cases ho : (qbi rp c).2 with
    | none =>
      have h3 := a3 ho
      rw [if_neg (by simp), qei h3, if_neg (by simp)]
      exact ⟨rfl, (fun n h => by cases h), fun _ => h3⟩
    | some n =>
      rw [if_pos (by rfl), Bool.true_and, ← a2 n ho]
      by_cases ht : (qp (qbi rp c).1 [44]).2 = true
      · rw [if_pos ht, if_pos ht]
        have h5 := qhm ht
        have h6 := qhs hp (c := c) (by rw [ho]; rfl)
        have h7 := (q8 (qbi rp c).1 [44]).2.1
        exact qkw f g _ _ (by omega) (by omega) (by omega)
      · rw [if_neg ht, if_neg ht]
        exact ⟨rfl, (fun l h => by cases h; rfl), (fun h => by cases h)⟩
/-- The ends of a context. -/
theorem qtv {c : K} (hg : ∀ t ∈ c.l, t.kind ≠ 0) (hr : em c ≤ b) : qdl (qbd rp c) (qg0 rr c) := by
  unfold qbd qg0
  by_cases ha : qgp c [61, 62] = true
  · rw [if_pos ha, if_pos ha]
    unfold qfb
    by_cases ht : (qp c [40]).2 = true
    · rw [if_pos ht, ht, Bool.true_and]
      have h5 := qhm ht
      have hB : qdl (if isK (qp c [40]).1 [41] = true then ((qp c [40]).1, some []) else qdi rp true (rest (qp c [40]).1 + 1) (qp c [40]).1 []) (qgv rr (qp c [40]).1) := by
        unfold qgv
        split
        · exact ⟨rfl, (fun l h => by cases h; rfl), (fun h => by cases h)⟩
        · exact qkw hx ih hp hm _ _ _ _ (by omega) (by omega) (by omega)
      obtain ⟨a1, a2, a3⟩ := hB
      generalize (if isK (qp c [40]).1 [41] = true then ((qp c [40]).1, some []) else qdi rp true (rest (qp c [40]).1 + 1) (qp c [40]).1 []) = p at *
      rw [← a1]
      unfold qdw
      cases ho : p.2 with
      | none =>
        have h3 := a3 ho
        rw [if_neg (by simp), qbz h3, qbz h3]
        exact ⟨rfl, (fun n h => by cases h), fun _ => h3⟩
      | some l =>
        rw [if_pos (by rfl), if_pos rfl, ← a2 l ho]
        by_cases hw : (qr p.1 [41]).2 = true
        · rw [if_pos hw]
          by_cases hw2 : (qr (qr p.1 [41]).1 [61, 62]).2 = true
          · rw [if_pos hw2]; exact ⟨rfl, (fun m h => by cases h; rfl), (fun h => by cases h)⟩
          · rw [if_neg hw2]
            exact ⟨rfl, (fun n h => by cases h), fun _ => qdh (by simpa using hw2)⟩
        · rw [if_neg hw]
          have h3 := qdh (c := p.1) (x := [41]) (by simpa using hw)
          rw [qbz h3]
          exact ⟨rfl, (fun n h => by cases h), fun _ => h3⟩
    · have ht' : (qp c [40]).2 = false := by simpa using ht
      have hsm := qdo ht'
      rw [if_neg ht, ht', hsm, Bool.false_and, if_neg (by simp)]
      unfold qdw
      obtain ⟨a1, a2, a3⟩ := qor hx ih hr
      rw [qdi, ← a1]
      cases ho : (qbi rp c).2 with
      | none =>
        have h3 := a3 ho
        rw [if_neg (by simp), if_neg (by simp), qbz h3]
        exact ⟨rfl, (fun n h => by cases h), fun _ => h3⟩
      | some n =>
        rw [if_pos (by rfl), Bool.false_and, if_neg (by simp), if_pos (by rfl), if_neg (by simp), ← a2 n ho]
        simp only [Option.getD_some, List.nil_append]
        by_cases hw : (qr (qbi rp c).1 [61, 62]).2 = true
        · rw [if_pos hw]; exact ⟨rfl, (fun m h => by cases h; rfl), (fun h => by cases h)⟩
        · rw [if_neg hw]
          exact ⟨rfl, (fun n h => by cases h), fun _ => qdh (by simpa using hw)⟩
  · rw [if_neg ha, if_neg ha]
    by_cases he : c.err = 0
    · have hf : failT c = false := by
        unfold failT
        by_cases hl : c.at' < c.l.length
        · have hk : (qw c).kind ≠ 0 := by rw [qq6 he (by omega)]; exact hg _ (q3r hl)
          rw [qwk he (by omega), decide_eq_false hk]; rfl
        · rw [qsc he (by omega)]; rfl
      rw [hf]
      exact ⟨rfl, (fun m h => by cases h; rfl), (fun h => by cases h)⟩
    · have hf : failT c = true := by
        unfold failT
        rw [ql4 he, qft he]
        simp [he, T0]
      rw [hf]
      exact ⟨rfl, (fun m h => by cases h), fun _ => he⟩
end
theorem qx2 (f : Nat) (c : K) (hg : ∀ t ∈ c.l, t.kind ≠ 0) (hr : em c < f) : qdl (qdm f c) (qq9 f c) := by
  have hx : ∀ c : K, c.err ≠ 0 → (qdt f c).1 = c := fun c h => by rw [qko f h]
  obtain ⟨a1, a2, a3⟩ := qtv hx (qm0 f) (qfx f) (qd5 f) hg (b := f) (by omega)
  have hl := (qk5 (qd5 f) c).em
  unfold qdm qq9
  rw [← a1] at hl ⊢
  cases ho : (qbd (qbt f) c).2 with
  | none =>
    have h3 := a3 ho
    rw [if_neg (by simp), qko f h3]
    exact ⟨rfl, (fun n h => by cases h), fun _ => h3⟩
  | some l =>
    rw [if_pos (by rfl), ← a2 l ho]
    obtain ⟨b1, b2, b3⟩ := qm0 f (qbd (qbt f) c).1 (by omega)
    refine ⟨b1, fun m h => ?_, fun h => b3 (by simpa using h)⟩
    obtain ⟨q, hq, rfl⟩ := Option.map_eq_some_iff.1 h
    rw [b2 q hq]; rfl
theorem qne : ∀ {l : List T} {t : T}, t ∈ qe1 l → t.kind ≠ 0
  | [], t, h => by simp [qe1] at h
  | u :: r, t, h => by
    rw [qe1] at h
    split at h
    · simp at h
    · rename_i hk
      rcases List.mem_cons.1 h with rfl | h
      · exact hk
      · exact qne h
end Go.Proofs.Ytmekebfgmjaenaa
