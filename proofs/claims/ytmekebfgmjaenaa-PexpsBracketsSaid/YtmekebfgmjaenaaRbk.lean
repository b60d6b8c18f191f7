/- Texts of this proof, joined. -/
import Derived.Test.YtmekebfgmjaenaaRbc

/- types: the reference -/
namespace Go.Proofs.Ytmekebfgmjaenaa
open Go Go.RowKit Go.V
set_option linter.unusedVariables false
set_option linter.unusedSimpArgs false

theorem qkf {c : K} (h : (qw c).kind ≠ 0) : em (qt c) < em c := by
  have h1 := qbg h
  rw [qbef (qff h).1]
  have := qxv (qt c)
  omega
theorem qhj {c : K} {x : List UInt8} (h : (qp c x).2 = true) : em (qp c x).1 < em c := by
  unfold qp at h ⊢
  split at h
  · rename_i h1
    rw [if_pos h1]
    exact qkf (qcg h1)
  · cases h
theorem qig {c : K} (h : isK c [40] = true) : em (qq (qe c).1 [40]).1 < em c := by
  rw [qbef (qtn h)]
  cases he : (qe c).2 with
  | false => rw [qbv (qet he), qbjx (qet he)]; omega
  | true =>
    have h1 : isK (qe c).1 [40] = true := by rw [qlt he]; exact h
    have h2 := qbg (qcg h1)
    have h3 := (qv c).2.1
    have h4 := qxv (qt (qe c).1)
    rw [qg3 h1]
    simp only; omega
def qdx (rec : K → K × N) (c : K) : K × N :=
  if c.err = 0 then
    if (qw c).kind = 1 then (qt c, qg7 c 1 [])
    else if (qw c).kind = 2 then (qt c, qg7 c 2 [])
    else if isK c [40] = true then (qbn (qq (rec (qq (qe c).1 [40]).1).1 [41]).1, (rec (qq (qe c).1 [40]).1).2)
    else (qee c 5, N0)
  else (c, N0)
def qe9 (rec : K → K × N) : Nat → K → List N → K × List N
  | 0, c, acc => (c, acc)
  | f + 1, c, acc => if begT c = true then qe9 rec f (qdx rec c).1 (acc ++ [(qdx rec c).2]) else (c, acc)
def qe2 (rec : K → K × N) (c : K) : K × N :=
  if (qw c).kind = 2 then ((qe9 rec (em (qt c) + 1) (qt c) []).1, qg7 c 2 (qe9 rec (em (qt c) + 1) (qt c) []).2) else qdx rec c
def qdv : Nat → K → K × N
  | 0, c => (c, N0)
  | f + 1, c =>
    if (qp (qe2 (qdv f) (qe c).1).1 [45, 62]).2 = true then
      (qbn (qdv f (qp (qe2 (qdv f) (qe c).1).1 [45, 62]).1).1, qir (qe2 (qdv f) (qe c).1).2 (qdv f (qp (qe2 (qdv f) (qe c).1).1 [45, 62]).1).2)
    else (qbn (qe2 (qdv f) (qe c).1).1, (qe2 (qdv f) (qe c).1).2)
section
variable {rec : K → K × N} (hm : ∀ c, Mon c (rec c).1)
include hm
theorem qlg (c : K) : Mon (qq (qe c).1 [40]).1 (qbn (qq (rec (qq (qe c).1 [40]).1).1 [41]).1) := ((hm _).trans (qo _ _)).trans (qbc _)
theorem qhl (c : K) : Mon c (qdx rec c).1 := by
  unfold qdx
  split
  · split
    · exact qbm c
    · split
      · exact qbm c
      · split
        · exact ((qv c).trans (qo _ _)).trans (qlg hm c)
        · exact qd7 c 5
  · exact Mon.refl c
theorem qrb {c : K} (h : begT c = true) : em (qdx rec c).1 < em c := by
  unfold qdx
  rw [if_pos (qzt h)]
  split
  · exact qkf (by omega)
  · split
    · exact qkf (by omega)
    · rename_i h1 h2
      have hk : isK c [40] = true := by simpa only [begT, decide_eq_false h1, decide_eq_false h2, Bool.false_or] using h
      rw [if_pos hk]
      have h3 := qig hk
      have h4 := (qlg hm c).em
      simp only; omega
theorem qk4 : ∀ (f : Nat) (c : K) (acc : List N), Mon c (qe9 rec f c acc).1
  | 0, c, acc => Mon.refl c
  | f + 1, c, acc => by
    rw [qe9]
    split
    · exact (qhl hm c).trans (qk4 f _ _)
    · exact Mon.refl c
theorem qnu (c : K) : Mon c (qe2 rec c).1 := by
  unfold qe2
  split
  · exact (qbm c).trans (qk4 hm _ _ _)
  · exact qhl hm c
end
theorem qd5 : ∀ (f : Nat) (c : K), Mon c (qdv f c).1
  | 0, c => Mon.refl c
  | f + 1, c => by
    have hr := (qv c).trans (qnu (qd5 f) (qe c).1)
    rw [qdv]
    split
    · exact ((hr.trans (q6 _ _)).trans (qd5 f _)).trans (qbc _)
    · exact hr.trans (qbc _)

/-! The program. -/

def qga (rec : K → K × N) (c : K) : K × N := ((qdx rec (kindK c 2).1).1, qqu (qg9 c 2) (qdx rec (kindK c 2).1).2)
def qgj (rec : K → K × N) : Nat → K → List N → K × List N
  | 0, c, acc => (c, acc)
  | f + 1, c, acc =>
    if (qp (qga rec c).1 [44]).2 = true then qgj rec f (qp (qga rec c).1 [44]).1 (acc ++ [(qga rec c).2])
    else ((qga rec c).1, acc ++ [(qga rec c).2])
def qgl (rec : K → K × N) (c : K) : K × List N :=
  if isK c [41] = true then (c, []) else qgj rec (em c + 2) c []
def qgy (rec : K → K × N) (c : K) : K × List N :=
  if qgh c [61, 62] = true then
    if (qp c [40]).2 = true then ((qq (qq (qgl rec (qp c [40]).1).1 [41]).1 [61, 62]).1, (qgl rec (qp c [40]).1).2)
    else ((qq (qga rec c).1 [61, 62]).1, [(qga rec c).2])
  else (c, [])
section
variable {rec : K → K × N} (hm : ∀ c, Mon c (rec c).1)
include hm
theorem qgv (c : K) : Mon c (qga rec c).1 := (qc8 c 2).trans (qhl hm _)
theorem qje : ∀ (f : Nat) (c : K) (acc : List N), Mon c (qgj rec f c acc).1
  | 0, c, acc => Mon.refl c
  | f + 1, c, acc => by
    rw [qgj]
    split
    · exact ((qgv hm c).trans (q6 _ _)).trans (qje f _ _)
    · exact qgv hm c
theorem qpu (c : K) : Mon c (qgl rec c).1 := by
  unfold qgl
  split
  · exact Mon.refl c
  · exact qje hm _ _ _
theorem qkq (c : K) : Mon c (qgy rec c).1 := by
  unfold qgy
  split
  · split
    · exact (((q6 c _).trans (qpu hm _)).trans (qo _ _)).trans (qo _ _)
    · exact (qgv hm c).trans (qo _ _)
  · exact Mon.refl c
end
def qq8 (f : Nat) (c : K) : K × N := ((qdv f (qgy (qdv f) c).1).1, qn7 (qw c).pos (qgy (qdv f) c).2 (qdv f (qgy (qdv f) c).1).2)

/-- The program's state is the reference's, and so is what is read, if there is something; else something failed. -/
def qdn {α : Type} (p : K × Option α) (r : K × α) : Prop := p.1 = r.1 ∧ (∀ n, p.2 = some n → n = r.2) ∧ (p.2 = none → p.1.err ≠ 0)
theorem qhz {rec : K → K × N} {c : K} (h : c.err ≠ 0) : qdx rec c = (c, N0) := if_neg h
theorem qtb {rec : K → K × N} {c : K} (h : c.err ≠ 0) (f : Nat) (acc : List N) : qe9 rec f c acc = (c, acc) := by
  cases f with
  | zero => rfl
  | succ f => rw [qe9, if_neg (by rw [q9d h]; simp)]
theorem qmt {rec : K → K × N} {c : K} (h : c.err ≠ 0) : qe2 rec c = (c, N0) := by
  rw [qe2, qfo h, if_neg (by decide), qhz h]
theorem qj4 (f : Nat) {c : K} (h : c.err ≠ 0) : qdv f c = (c, N0) := by
  cases f with
  | zero => rfl
  | succ f => rw [qdv, qic h, qmt h, qen h, if_neg (by simp), qb1 h]
section
variable {rp : K → K × Option N} {rr : K → K × N} {b : Nat} (hx : ∀ c : K, c.err ≠ 0 → (rr c).1 = c) (ih : ∀ c, em c < b → qdn (rp c) (rr c))
include hx ih
theorem qi2 {c : K} (hr : em c ≤ b) : qdn (qbl rp c) (qdx rr c) := by
  by_cases h0 : c.err = 0
  · unfold qbl qdx
    rw [if_pos h0]
    by_cases h1 : (qw c).kind = 1
    · rw [if_pos h1, if_pos h1]; exact ⟨rfl, (fun n h => by cases h; rfl), (fun h => by cases h)⟩
    · rw [if_neg h1, if_neg h1]
      by_cases h2 : (qw c).kind = 2
      · rw [if_pos h2, if_pos h2]; exact ⟨rfl, (fun n h => by cases h; rfl), (fun h => by cases h)⟩
      · rw [if_neg h2, if_neg h2]
        by_cases hk : isK c [40] = true
        · rw [if_pos hk, if_pos hk]
          have hem := qig hk
          by_cases he : (qe c).2 = true
          · rw [if_pos he]
            have hk' : isK (qe c).1 [40] = true := by rw [qlt he]; exact hk
            rw [qg3 hk'] at hem ⊢
            simp only at hem ⊢
            obtain ⟨a1, a2, a3⟩ := ih (qt (qe c).1) (by omega)
            rw [← a1]
            generalize rp (qt (qe c).1) = r at *
            obtain ⟨d, o⟩ := r
            simp only at a1 a2 a3 ⊢
            cases o with
            | none =>
              have h3 := a3 rfl
              rw [if_neg (by simp), qbv h3, qb1 h3]
              exact ⟨rfl, (fun n h => by cases h), fun _ => h3⟩
            | some n =>
              rw [if_pos (by rfl)]
              by_cases hw : (qq d [41]).2 = true
              · rw [if_pos hw]
                exact ⟨rfl, fun m h => a2 m h, (fun h => by cases h)⟩
              · rw [if_neg hw]
                have h3 := qdg (by simpa using hw)
                exact ⟨rfl, (fun n h => by cases h), fun _ => by simp only; rw [qb1 h3]; exact h3⟩
          · have he' : (qe c).2 = false := by simpa using he
            have h1 := qet he'
            rw [if_neg he]
            rw [qbv h1] at hem ⊢
            simp only at hem ⊢
            rw [hx _ h1, qbv h1, qb1 h1]
            exact ⟨rfl, (fun n h => by cases h), fun _ => h1⟩
        · rw [if_neg hk, if_neg hk]
          exact ⟨rfl, (fun n h => by cases h), fun _ => qgz c⟩
  · rw [qhz h0, qbl, qfo h0, if_neg (by decide), if_neg (by decide), if_neg (by rw [qqo h0]; simp), qex h0]
    exact ⟨rfl, (fun n h => by cases h), fun _ => h0⟩
theorem qmg (hp : ∀ c, Mon c (rp c).1) (hm : ∀ c, Mon c (rr c).1) : ∀ (f g : Nat) (c : K) (acc : List N), rest c < f → em c < g → em c ≤ b → qdn (qcy rp f c acc) (qe9 rr g c acc)
  | 0, _, _, _ => fun h _ _ => by omega
  | _, 0, _, _ => fun _ h _ => by omega
  | f + 1, g + 1, c, acc => fun hf hg hb => by
    rw [qcy, qe9]
    by_cases hk : begT c = true
    · rw [if_pos hk, if_pos hk]
      obtain ⟨a1, a2, a3⟩ := qi2 hx ih hb
      have hl := qrb hm hk
      rw [← a1] at hl ⊢
      cases ho : (qbl rp c).2 with
      | none =>
        have h3 := a3 ho
        rw [if_neg (by simp), qtb h3]
        exact ⟨rfl, (fun n h => by cases h), fun _ => h3⟩
      | some n =>
        rw [if_pos (by rfl), ← a2 n ho]
        exact qmg hp hm f g _ _ (by have := qeu hp (c := c) (by rw [ho]; rfl); omega) (by omega) (by omega)
    · rw [if_neg hk, if_neg hk]
      exact ⟨rfl, (fun l h => by cases h; rfl), (fun h => by cases h)⟩
theorem qxa (hp : ∀ c, Mon c (rp c).1) (hm : ∀ c, Mon c (rr c).1) {c : K} (hr : em c ≤ b) : qdn (qbu rp c) (qe2 rr c) := by
  unfold qbu qe2
  by_cases hk : (qw c).kind = 2
  · rw [if_pos hk, if_pos hk]
    have h1 := qbg (c := c) (by omega)
    have h2 := qkf (c := c) (by omega)
    obtain ⟨a1, a2, a3⟩ := qmg hx ih hp hm (rest c + 1) (em (qt c) + 1) (qt c) [] (by omega) (by omega) (by omega)
    refine ⟨a1, fun n h => ?_, fun h => a3 (by simpa using h)⟩
    obtain ⟨l, hl, rfl⟩ := Option.map_eq_some_iff.1 h
    rw [a2 l hl]
  · rw [if_neg hk, if_neg hk]
    exact qi2 hx ih hr
theorem qpb {c : K} (hr : em c ≤ b) : qdn (qbe rp c) (qga rr c) := by
  have h1 := (qc8 c 2).em
  obtain ⟨a1, a2, a3⟩ := qi2 hx ih (c := (kindK c 2).1) (by omega)
  unfold qbe qga
  by_cases hk : (kindK c 2).2 = true
  · rw [if_pos hk]
    refine ⟨a1, fun n h => ?_, fun h => a3 (by simpa using h)⟩
    obtain ⟨m, hm, rfl⟩ := Option.map_eq_some_iff.1 h
    rw [a2 m hm]
  · rw [if_neg hk]
    have h2 := qv3 (c := c) (k := 2) (by simpa using hk)
    rw [qhz h2]
    exact ⟨rfl, (fun n h => by cases h), fun _ => h2⟩
end
theorem qms : ∀ (f : Nat) (c : K), em c < f → qdn (qbo f c) (qdv f c)
  | 0, _ => fun h => by omega
  | f + 1, c => fun hf => by
    have ih := qms f
    have hx : ∀ c : K, c.err ≠ 0 → (qdv f c).1 = c := fun c h => by rw [qj4 f h]
    rw [qbo, qdv]
    by_cases he : (qe c).2 = true
    · have h1 := (qv c).em
      rw [if_pos he]
      obtain ⟨a1, a2, a3⟩ := qxa hx ih (qfm f) (qd5 f) (c := (qe c).1) (by omega)
      have hl := (qnu (qd5 f) (qe c).1).em
      rw [← a1] at hl ⊢
      cases ho : (qbu (qbo f) (qe c).1).2 with
      | none =>
        have h3 := a3 ho
        rw [if_neg (by simp), qen h3, if_neg (by simp)]
        exact ⟨rfl, (fun n h => by cases h), fun _ => by simp only; rw [qb1 h3]; exact h3⟩
      | some n =>
        rw [if_pos (by rfl), ← a2 n ho]
        by_cases ht : (qp (qbu (qbo f) (qe c).1).1 [45, 62]).2 = true
        · rw [if_pos ht, if_pos ht]
          have h5 := qhj ht
          obtain ⟨b1, b2, b3⟩ := ih (qp (qbu (qbo f) (qe c).1).1 [45, 62]).1 (by omega)
          refine ⟨by simp only; rw [b1], fun m h => ?_, fun h => ?_⟩
          · obtain ⟨q, hq, rfl⟩ := Option.map_eq_some_iff.1 h
            rw [b2 q hq]; rfl
          · have h6 := b3 (by simpa using h)
            simp only
            rw [qb1 h6]; exact h6
        · rw [if_neg ht, if_neg ht]
          exact ⟨rfl, (fun m h => by cases h; rfl), (fun h => by cases h)⟩
    · have he' : (qe c).2 = false := by simpa using he
      have h1 := qet he'
      rw [if_neg he, qmt h1, qen h1, if_neg (by simp), qb1 h1]
      exact ⟨rfl, (fun n h => by cases h), fun _ => h1⟩
section
variable {rp : K → K × Option N} {rr : K → K × N} {b : Nat} (hx : ∀ c : K, c.err ≠ 0 → (rr c).1 = c) (ih : ∀ c, em c < b → qdn (rp c) (rr c)) (hp : ∀ c, Mon c (rp c).1) (hm : ∀ c, Mon c (rr c).1)
include hx ih hp hm
theorem qko : ∀ (f g : Nat) (c : K) (acc : List N), rest c < f → em c < g → em c ≤ b → qdn (qdh rp true f c acc) (qgj rr g c acc)
  | 0, _, _, _ => fun h _ _ => by omega
  | _, 0, _, _ => fun _ h _ => by omega
  | f + 1, g + 1, c, acc => fun hf hg hb => by
    rw [qdh, qgj]
    obtain ⟨a1, a2, a3⟩ := qpb hx ih hb
    have hl := (qgv hm c).em
    rw [← a1] at hl ⊢
    cases ho : (qbe rp c).2 with
    | none =>
      have h3 := a3 ho
      rw [if_neg (by simp), qen h3, if_neg (by simp)]
      exact ⟨rfl, (fun n h => by cases h), fun _ => h3⟩
    | some n =>
      rw [if_pos (by rfl), Bool.true_and, ← a2 n ho]
      by_cases ht : (qp (qbe rp c).1 [44]).2 = true
      · rw [if_pos ht, if_pos ht]
        have h5 := qhj ht
        have h6 := qhf hp (c := c) (by rw [ho]; rfl)
        have h7 := (q6 (qbe rp c).1 [44]).2.1
        exact qko f g _ _ (by omega) (by omega) (by omega)
      · rw [if_neg ht, if_neg ht]
        exact ⟨rfl, (fun l h => by cases h; rfl), (fun h => by cases h)⟩
/-- The ends of a context. -/
theorem qto {c : K} (hg : ∀ t ∈ c.l, t.kind ≠ 0) (hr : em c ≤ b) : qdn (qbb rp c) (qgy rr c) := by
  unfold qbb qgy
  by_cases ha : qgh c [61, 62] = true
  · rw [if_pos ha, if_pos ha]
    unfold qe3
    by_cases ht : (qp c [40]).2 = true
    · rw [if_pos ht, ht, Bool.true_and]
      have h5 := qhj ht
      have hB : qdn (if isK (qp c [40]).1 [41] = true then ((qp c [40]).1, some []) else qdh rp true (rest (qp c [40]).1 + 1) (qp c [40]).1 []) (qgl rr (qp c [40]).1) := by
        unfold qgl
        split
        · exact ⟨rfl, (fun l h => by cases h; rfl), (fun h => by cases h)⟩
        · exact qko hx ih hp hm _ _ _ _ (by omega) (by omega) (by omega)
      obtain ⟨a1, a2, a3⟩ := hB
      generalize (if isK (qp c [40]).1 [41] = true then ((qp c [40]).1, some []) else qdh rp true (rest (qp c [40]).1 + 1) (qp c [40]).1 []) = p at *
      rw [← a1]
      unfold qdw
      cases ho : p.2 with
      | none =>
        have h3 := a3 ho
        rw [if_neg (by simp), qbv h3, qbv h3]
        exact ⟨rfl, (fun n h => by cases h), fun _ => h3⟩
      | some l =>
        rw [if_pos (by rfl), if_pos rfl, ← a2 l ho]
        by_cases hw : (qq p.1 [41]).2 = true
        · rw [if_pos hw]
          by_cases hw2 : (qq (qq p.1 [41]).1 [61, 62]).2 = true
          · rw [if_pos hw2]; exact ⟨rfl, (fun m h => by cases h; rfl), (fun h => by cases h)⟩
          · rw [if_neg hw2]
            exact ⟨rfl, (fun n h => by cases h), fun _ => qdg (by simpa using hw2)⟩
        · rw [if_neg hw]
          have h3 := qdg (c := p.1) (x := [41]) (by simpa using hw)
          rw [qbv h3]
          exact ⟨rfl, (fun n h => by cases h), fun _ => h3⟩
    · have ht' : (qp c [40]).2 = false := by simpa using ht
      have hsm := qdl ht'
      rw [if_neg ht, ht', hsm, Bool.false_and, if_neg (by simp)]
      unfold qdw
      obtain ⟨a1, a2, a3⟩ := qpb hx ih hr
      rw [qdh, ← a1]
      cases ho : (qbe rp c).2 with
      | none =>
        have h3 := a3 ho
        rw [if_neg (by simp), if_neg (by simp), qbv h3]
        exact ⟨rfl, (fun n h => by cases h), fun _ => h3⟩
      | some n =>
        rw [if_pos (by rfl), Bool.false_and, if_neg (by simp), if_pos (by rfl), if_neg (by simp), ← a2 n ho]
        simp only [Option.getD_some, List.nil_append]
        by_cases hw : (qq (qbe rp c).1 [61, 62]).2 = true
        · rw [if_pos hw]; exact ⟨rfl, (fun m h => by cases h; rfl), (fun h => by cases h)⟩
        · rw [if_neg hw]
          exact ⟨rfl, (fun n h => by cases h), fun _ => qdg (by simpa using hw)⟩
  · rw [if_neg ha, if_neg ha]
    by_cases he : c.err = 0
    · have hf : failT c = false := by
        unfold failT
        by_cases hl : c.at' < c.l.length
        · have hk : (qw c).kind ≠ 0 := by rw [qqp he (by omega)]; exact hg _ (q34 hl)
          rw [qwg he (by omega), decide_eq_false hk]; rfl
        · rw [qr1 he (by omega)]; rfl
      rw [hf]
      exact ⟨rfl, (fun m h => by cases h; rfl), (fun h => by cases h)⟩
    · have hf : failT c = true := by
        unfold failT
        rw [qn2 he, qfo he]
        simp [he, T0]
      rw [hf]
      exact ⟨rfl, (fun m h => by cases h), fun _ => he⟩
end
theorem qw7 (f : Nat) (c : K) (hg : ∀ t ∈ c.l, t.kind ≠ 0) (hr : em c < f) : qdn (qdo f c) (qq8 f c) := by
  have hx : ∀ c : K, c.err ≠ 0 → (qdv f c).1 = c := fun c h => by rw [qj4 f h]
  obtain ⟨a1, a2, a3⟩ := qto hx (qms f) (qfm f) (qd5 f) hg (b := f) (by omega)
  have hl := (qkq (qd5 f) c).em
  unfold qdo qq8
  rw [← a1] at hl ⊢
  cases ho : (qbb (qbo f) c).2 with
  | none =>
    have h3 := a3 ho
    rw [if_neg (by simp), qj4 f h3]
    exact ⟨rfl, (fun n h => by cases h), fun _ => h3⟩
  | some l =>
    rw [if_pos (by rfl), ← a2 l ho]
    obtain ⟨b1, b2, b3⟩ := qms f (qbb (qbo f) c).1 (by omega)
    refine ⟨b1, fun m h => ?_, fun h => b3 (by simpa using h)⟩
    obtain ⟨q, hq, rfl⟩ := Option.map_eq_some_iff.1 h
    rw [b2 q hq]; rfl
theorem qn0 : ∀ {l : List T} {t : T}, t ∈ qey l → t.kind ≠ 0
  | [], t, h => by simp [qey] at h
  | u :: r, t, h => by
    rw [qey] at h
    split at h
    · simp at h
    · rename_i hk
      rcases List.mem_cons.1 h with rfl | h
      · exact hk
      · exact qn0 h
end Go.Proofs.Ytmekebfgmjaenaa
