/- Texts of this proof, joined. -/
import Derived.Test.YtmekebfgmjaenaaRbj
import Derived.Test.YtmekebfgmjaenaaRbp

/- readings of whole texts, side by side: the same tree but for Pos, or too deep -/
namespace Go.Proofs.Ytmekebfgmjaenaa
open Go Go.RowKit Go.V
set_option linter.unusedVariables false
set_option linter.unusedSimpArgs false

theorem qw3 {l : List N} (h : ∀ x ∈ l, depR (qy x) = depR x) : ∀ a, qn9 a (l.map qy) = qn9 a l := by
  induction l with
  | nil => intro a; rfl
  | cons x r ih =>
    intro a
    rw [List.map_cons, qn9, qn9, h x (by simp), ih (fun y hy => h y (by simp [hy]))]
theorem qrt : ∀ n, depR (qy n) = depR n := by
  refine N.ind fun n ih => ?_
  rw [qtu n, qtu (qy n), show (qy n).kids = n.kids.map qy by rw [qne, ← qfq]; rfl, qw3 ih]
theorem NS.dep {x y : N} (h : NS x y) : depR x = depR y := by rw [← qrt x, show qy x = qy y from h, qrt]
theorem q4y {l : List N} (h : ∀ x ∈ l, ∀ y, qy x = qy y → qqk x y = true) : ∀ l' : List N, l.map qy = l'.map qy → qd4 l l' = true := by
  induction l with
  | nil => intro l' h'; cases l' with
    | nil => rw [qd4]
    | cons y r => simp at h'
  | cons x r ih => intro l' h'; cases l' with
    | nil => simp at h'
    | cons y r' =>
      simp only [List.map_cons, List.cons.injEq] at h'
      rw [qd4, h x (by simp) y h'.1, ih (fun z hz => h z (by simp [hz])) r' h'.2]; rfl
theorem qbgn : ∀ x y, qy x = qy y → qqk x y = true := by
  refine N.ind fun x ih y h => ?_
  have hx := qne x
  have hy := qne y
  rw [hx, hy, qfq, qfq] at h
  simp only [N.mk.injEq, true_and] at h
  obtain ⟨h1, h2, h3, h4⟩ := h
  rw [qh8, h1, h2, h3, q4y ih _ h4]
  simp
/-- What the reading of a text has read. -/
theorem q2y {k : Nat} (hk : 2 ≤ k) {s : List UInt8} (h : (expK k s).2.2 = 0) : (lexV s).2.2 = 0 ∧ ∃ x, (qbt (rest (newK (lexV s).1) + k) (newK (lexV s).1)).2 = some x ∧ (qeq (qbt (rest (newK (lexV s).1) + k) (newK (lexV s).1)).1).2 = 0 ∧ ¬ depR x > 100 ∧ expK k s = (x, 0, 0) := by
  unfold expK qxp at h ⊢
  by_cases hl : (lexV s).2.2 = 0
  · rw [if_pos hl] at h ⊢
    refine ⟨hl, ?_⟩
    have hal := qsj (rest (newK (lexV s).1) + k) (newK (lexV s).1) (fun t ht => qn0 ht) (by have := qxv (newK (lexV s).1); omega)
    simp only at h ⊢
    unfold qs5 at h ⊢
    by_cases hd : (qeq (qbt (rest (newK (lexV s).1) + k) (newK (lexV s).1)).1).2 = 0
    · rw [if_pos hd] at h ⊢
      cases hq : (qbt (rest (newK (lexV s).1) + k) (newK (lexV s).1)).2 with
      | none => exact absurd (q2h hd) (hal.2.2 hq)
      | some x =>
        rw [hq] at h
        simp only [Option.getD_some] at h ⊢
        by_cases hx : depR x > 100
        · rw [if_pos hx] at h; cases h
        · exact ⟨x, rfl, hd, hx, by rw [if_neg hx]⟩
    · rw [if_neg hd] at h; exact absurd h hd
  · rw [if_neg hl] at h; exact absurd h hl
theorem qbhj {k : Nat} {s : List UInt8} {x : N} (hl : (lexV s).2.2 = 0) (hx : (qbt (rest (newK (lexV s).1) + k) (newK (lexV s).1)).2 = some x) (hd : (qeq (qbt (rest (newK (lexV s).1) + k) (newK (lexV s).1)).1).2 = 0) (hp : ¬ depR x > 100) : expK k s = (x, 0, 0) := by
  unfold expK qxp
  rw [if_pos hl]
  simp only
  unfold qs5
  rw [if_pos hd, hx, Option.getD_some, if_neg hp]
theorem q2g {c : K} (h : (qeq c).2 = 0) : c.err = 0 ∧ remT c = [] := by
  have he := q2h h
  refine ⟨he, ?_⟩
  unfold qeq at h
  rw [if_pos he] at h
  by_cases hl : c.at' < c.l.length
  · rw [if_pos hl] at h; cases h
  · exact List.drop_of_length_le (by omega)
theorem q09 {c : K} (he : c.err = 0) (h : remT c = []) : (qeq c).2 = 0 := by
  unfold qeq
  have : ¬ c.at' < c.l.length := by
    have := congrArg List.length h
    simp [remT] at this; omega
  rw [if_pos he, if_neg this]
/-- The words of a text, as the reader sees them. -/
theorem q64 {s : List UInt8} (hs : s.length ≤ 1048576) : ((lexV s).2.2 = 0 ↔ (wl s).2 = 0) ∧ ((lexV s).2.2 = 0 → (remT (newK (lexV s).1)).map bare = (wl s).1 ∧ (newK (lexV s).1).nest = 0 ∧ (newK (lexV s).1).err = 0) := by
  have hsi : ¬ (1048576 : Int) < s.length := by omega
  by_cases h : (lexG s (qcc s)).2.2 = 0
  · rw [quv hsi h]
    refine ⟨⟨fun _ => h, fun _ => rfl⟩, fun _ => ⟨?_, rfl, rfl⟩⟩
    have hk : ∀ t ∈ (lexG s (qcc s)).1, t.kind ≠ 0 := fun t ht => (qvy _ _ h t ht).2
    have ha : ∀ (l : List T) (n : Int), (∀ t ∈ l, t.kind ≠ 0) → qey (l ++ [⟨0, n, 0, []⟩]) = l := by
      intro l n hl
      induction l with
      | nil => simp [qey]
      | cons t r ih => rw [List.cons_append, qey, if_neg (hl t (by simp)), ih (fun u hu => hl u (by simp [hu]))]
    show ((newK ((lexG s (qcc s)).1 ++ [⟨0, s.length, 0, []⟩])).l.drop 0).map bare = _
    rw [List.drop_zero]
    show (qey ((lexG s (qcc s)).1 ++ [⟨0, s.length, 0, []⟩])).map bare = _
    rw [ha _ _ hk]; rfl
  · rw [qp3 hsi h]
    exact ⟨⟨fun q => absurd q h, fun q => absurd q h⟩, fun q => absurd q h⟩

theorem qmw {c : K} {b : T} {r : List T} (h : (remT c).map bare = b :: r) (he : c.err = 0) : bare (qw c) = b ∧ (remT (qt c)).map bare = r ∧ (qt c).err = 0 ∧ (qt c).nest = c.nest := by
  cases hq : remT c with
  | nil => rw [hq] at h; simp at h
  | cons t s =>
    rw [hq, List.map_cons, List.cons.injEq] at h
    obtain ⟨n1, n2, n3⟩ := qna hq he
    exact ⟨by rw [(qfi hq he).1]; exact h.1, by rw [n1]; exact h.2, n2, n3⟩
theorem q1e {c : K} {x : List UInt8} (h : bare (qw c) = tkn 5 x) (he : c.err = 0) : isK c x = true := by
  have h1 : (qw c).kind = 5 := congrArg T.kind h
  have h2 : (qw c).text = x := congrArg T.text h
  unfold isK qe6
  rw [he, h1, h2]; simp
theorem qgm (c : K) : remT (qbn c) = remT c ∧ (qbn c).err = c.err := by
  unfold qbn
  split
  · split <;> exact ⟨rfl, rfl⟩
  · exact ⟨rfl, rfl⟩

/-! The texts. -/
end Go.Proofs.Ytmekebfgmjaenaa

/- a binding with parameters is one with lambdas for them: of whole texts -/
namespace Go.Proofs.Ytmekebfgmjaenaa
open Go Go.RowKit Go.V
set_option linter.unusedVariables false
set_option linter.unusedSimpArgs false
set_option linter.unusedSectionVars false

end Go.Proofs.Ytmekebfgmjaenaa

/- a binding with parameters: the law of whole texts -/
namespace Go.Proofs.Ytmekebfgmjaenaa
open Go Go.RowKit Go.V
set_option linter.unusedVariables false
set_option linter.unusedSimpArgs false

theorem q5r (t : T) (r : List T × Int) : (qq0 t r).2 = r.2 ∧ (r.2 = 0 → (qq0 t r).1 = bare t :: r.1) := by
  unfold qq0
  split
  · rename_i h; exact ⟨h.symm, fun _ => rfl⟩
  · rename_i h; exact ⟨rfl, fun q => absurd q h⟩
end Go.Proofs.Ytmekebfgmjaenaa

/- the words of a text with a new line and a bracket behind it -/
namespace Go.Proofs.Ytmekebfgmjaenaa
open Go Go.RowKit Go.V
set_option linter.unusedVariables false
set_option linter.unusedSimpArgs false
set_option linter.unusedSectionVars false

/-- A new line and a closing bracket. -/
def endB : List UInt8 := [10, 41]
theorem qhi (f : Int → Bool) : ∀ (l r : List UInt8), qbi f (l ++ r) = if qbi f l < l.length then qbi f l else l.length + qbi f r
  | [], r => by simp [qbi]
  | c :: l, r => by
    rw [List.cons_append]
    by_cases h : f c.toNat = true
    · rw [qg4 h, qg4 h, qhi f l r, List.length_cons]
      split <;> split <;> omega
    · have h : f c.toNat = false := by simpa using h
      rw [qgo (l := c :: l) (by simpa using h), qgo (l := c :: (l ++ r)) (by simpa using h), if_pos (by simp)]
theorem qj3 {f : Int → Bool} (hf : f 10 = false) (l : List UInt8) : qbi f (l ++ endB) = qbi f l := by
  have h0 : qbi f endB = 0 := qgo (by simpa [endB] using hf)
  have := qdb f l
  rw [qhi, h0]
  split <;> omega
theorem q03 {m l : List UInt8} (hm : (10 : UInt8) ∉ m) : pfx m (l ++ endB) = pfx m l := by
  unfold pfx
  by_cases h : m.length ≤ l.length
  · rw [List.take_append_of_le_length h]
  · have h1 : ¬ l.take m.length = m := by
      intro e
      have := congrArg List.length e
      rw [List.length_take] at this; omega
    have h2 : ¬ (l ++ endB).take m.length = m := by
      intro e
      apply hm
      rw [← e, List.take_append, List.mem_append]
      refine .inr ?_
      rw [endB, show m.length - l.length = (m.length - l.length - 1) + 1 by omega, List.take_succ_cons]
      simp
    rw [decide_eq_false h1, decide_eq_false h2]
theorem qti {l : List UInt8} : ∀ {ms : List (List UInt8)}, (∀ m ∈ ms, (10 : UInt8) ∉ m) → qin (l ++ endB) ms = qin l ms
  | [], _ => rfl
  | m :: r, h => by rw [qin, qin, q03 (h m (by simp)), qti fun x hx => h x (by simp [hx])]
theorem qvl (l : List UInt8) : qg8 (l ++ endB) = qg8 l := qti (by decide)
theorem qjo {l : List UInt8} (hl : l ≠ []) : (l ++ endB).getD 0 0 = l.getD 0 0 := qoi hl
theorem qqc {l : List UInt8} {n : Nat} (h : n ≤ l.length) : (l ++ endB).take n = l.take n := List.take_append_of_le_length h
/-- A word that is all right is the same with a new line behind the text. -/
theorem qzg {l : List UInt8} (hl : l ≠ []) (he : (qb0 l).2 = 0) : qb0 (l ++ endB) = qb0 l := by
  by_cases hd : qb6 (l.getD 0 0).toNat = true
  · rw [qhq hd, qhq (by rw [qjo hl]; exact hd), qj3 (by decide), qqc (qdb _ _)]
  · have hd : qb6 (l.getD 0 0).toNat = false := by simpa using hd
    by_cases ho : (onW (l.getD 0 0).toNat && !decide (((l.getD 0 0).toNat : Int) = 39)) = true
    · rw [qjq hd ho, qjq (by rw [qjo hl]; exact hd) (by rw [qjo hl]; exact ho), qj3 (by decide), qqc (qdb _ _)]
    · have ho : (onW (l.getD 0 0).toNat && !decide (((l.getD 0 0).toNat : Int) = 39)) = false := by simpa using ho
      by_cases hm : qg8 l = 0
      · rw [qqv hd ho hm] at he; simp at he
      · rw [qfe hd ho hm, qfe (by rw [qjo hl]; exact hd) (by rw [qjo hl]; exact ho) (by rw [qvl]; exact hm), qvl, qqc (qlj _)]
theorem qls {l : List UInt8} {n : Nat} (h : n ≤ l.length) : (l ++ endB).drop n = l.drop n ++ endB := List.drop_append_of_le_length h
theorem q2z {l : List UInt8} : qez (l ++ endB) = if qbi qc1 l < l.length then qez l else l.length + 1 := by
  have hb := qhi qc1 l endB
  have h1 : qbi qc1 endB = 1 := by decide
  rw [h1] at hb
  by_cases h : qbi qc1 l < l.length
  · rw [if_pos h] at hb ⊢
    unfold qez
    rw [hb, qls (by omega), q03 (by decide)]
    split
    · rw [qj3 (by decide)]
    · rfl
  · rw [if_neg h] at hb ⊢
    unfold qez
    rw [hb, show (l ++ endB).drop (l.length + 1) = [41] by rw [List.drop_append]; simp [endB]]
    rfl
theorem qs6 : ∀ (n : Nat) (l : List UInt8), l.length ≤ n → qcc (l ++ endB) = if qcc l < l.length then qcc l else l.length + 1 := by
  intro n
  induction n with
  | zero =>
    intro l hn
    have : l = [] := List.eq_nil_of_length_eq_zero (by omega)
    subst this
    decide
  | succ n ih =>
    intro l hn
    have hle := qjf l
    have hlw := qji l
    have hK := q2z (l := l)
    have h41 : qcc [41] = 0 := by decide
    by_cases h : qbi qc1 l < l.length
    · rw [if_pos h] at hK
      by_cases h0 : qez l = 0
      · rw [qi3 (l := l ++ endB) (by rw [hK]; exact h0), qi3 h0, if_pos (by omega)]
      · rw [qiv (l := l ++ endB) (by rw [hK]; exact h0), hK, qls hle, ih _ (by rw [List.length_drop]; omega)]
        rw [qiv h0] at hlw ⊢
        rw [List.length_drop]
        split <;> split <;> omega
    · rw [if_neg h] at hK
      have hw : qcc l = l.length := by
        have h2 := qdb qc1 l
        have h3 : qbi qc1 l = l.length := by omega
        have h4 : qez l = l.length := by
          unfold qez
          rw [h3, List.drop_length]
          rfl
        by_cases h0 : l.length = 0
        · rw [qi3 (by omega)]; omega
        · rw [qiv (by omega), h4, List.drop_length]; rfl
      rw [qiv (by omega), hK, show (l ++ endB).drop (l.length + 1) = [41] by rw [List.drop_append]; simp [endB], h41, hw, if_neg (by omega)]
/-- The place behind what stands ahead of the next word. -/
def endK (s : List UInt8) (k : Nat) : Nat := if k < s.length then k else s.length + 1
theorem q7d {s : List UInt8} : ∀ (n k : Nat), s.length - k ≤ n → k ≤ s.length → (BL s k).2 = 0 → BL (s ++ endB) (endK s k) = ((BL s k).1 ++ [tkn 5 [41]], 0)
  | n, k, hn, hk, h => by
    by_cases h1 : k < s.length
    · rw [endK, if_pos h1]
      by_cases h2 : (qb0 (s.drop k)).2 = 0
      · cases n with
        | zero => omega
        | succ n =>
        have hlt := qj9 h1 h2
        have hle := qug (Nat.le_of_lt h1)
        have hne : s.drop k ≠ [] := by intro e; have := congrArg List.length e; simp at this; omega
        have hd := qls (l := s) (n := k) (by omega)
        have hw := qzg hne h2
        have hN : lexN (s ++ endB) k = lexN s k := by unfold lexN; rw [hd, hw]
        have hNl := qtp (Nat.le_of_lt h1)
        have hK : lexK (s ++ endB) k = endK s (lexK s k) := by
          unfold lexK
          rw [hN, qls hNl, qs6 _ _ (Nat.le_refl _), List.length_drop, endK]
          have := qji (s.drop (lexN s k))
          rw [List.length_drop] at this
          split <;> split <;> omega
        rw [BL_1 h1 h2] at h ⊢
        rw [BL_1 (by rw [List.length_append]; omega) (by rw [hd, hw]; exact h2), hd, hw, hK]
        have h0 : (BL s (lexK s k)).2 = 0 := by rw [(q5r _ _).1] at h; exact h
        rw [q7d n _ (by omega) hle h0]
        rw [qq0, qq0, if_pos h0, if_pos rfl]; rfl
      · rw [BL_2 h1 h2] at h; exact absurd h h2
    · have hs : (s ++ endB).drop (s.length + 1) = [41] := by rw [List.drop_append]; simp [endB]
      have h41 : qb0 [41] = (tkn 5 [41], 0) := by decide
      rw [endK, if_neg h1, BL_0 h1, BL_1 (by rw [List.length_append]; simp [endB]) (by rw [hs, h41]), hs, h41, BL_0 (s := s ++ endB) (k := lexK (s ++ endB) (s.length + 1)) (by
        have : lexN (s ++ endB) (s.length + 1) = s.length + 2 := by unfold lexN; rw [hs, h41]; rfl
        unfold lexK
        rw [this, List.length_append]; simp [endB])]
      rfl
theorem qbim {s : List UInt8} (h : (wl s).2 = 0) : wl (s ++ endB) = ((wl s).1 ++ [tkn 5 [41]], 0) := by
  have := q7d _ _ (Nat.le_refl _) (qji s) h
  unfold wl
  rw [qs6 _ _ (Nat.le_refl _)]
  exact this
/-- A bracket ahead. -/
theorem qbbh (u : List UInt8) : wl (40 :: u) = qq0 (tkn 5 [40]) (wl u) := by
  refine qbh0 (d := [40]) (by decide) ?_ ?_ rfl
  · exact qkb (by simp [pfx]) (qgo (show qc1 ((40 : UInt8).toNat : Int) = false by decide))
  · have hm : qg8 (40 :: u) = 1 := by simp [qg8, marksW, qin, pfx]
    rw [List.cons_append, List.nil_append, qfe (l := 40 :: u) (show qb6 ((40 : UInt8).toNat : Int) = false by decide) (show (onW ((40 : UInt8).toNat : Int) && !decide (((40 : UInt8).toNat : Int) = 39)) = false by decide) (by rw [hm]; decide), hm]
    rfl
def qdi (s : List UInt8) : List UInt8 := 40 :: (s ++ endB)
theorem qt5 {s : List UInt8} (h : (wl s).2 = 0) : wl (qdi s) = (tkn 5 [40] :: ((wl s).1 ++ [tkn 5 [41]]), 0) := by
  rw [qdi, qbbh, qbim h]; rfl

/-- What stands behind the reading of what is in brackets. -/
def qky (p : K × Option N) (rec : K → K × Option N) : R3 :=
  if p.2.isSome = true then
    if (qq p.1 [41]).2 = true then qdj rec (rest (qbn (qq p.1 [41]).1) + 1) (qbn (qq p.1 [41]).1) (p.2.getD N0)
    else ((qq p.1 [41]).1, N0, false)
  else (p.1, N0, false)
theorem qbhr {F : Nat} {c : K} {r : List T} (he : c.err = 0) (hg : c.good) (hn : c.nest < 100) (hw : (remT c).map bare = tkn 5 [40] :: r) :
    ∃ d : K, d.err = 0 ∧ d.good ∧ d.nest = c.nest + 2 ∧ (remT d).map bare = r ∧ qbt (F + 1) c = (qbn (qky (qbt F d) (qbt F)).1, (toO (qky (qbt F d) (qbt F))).2) := by
  have h0 : qe c = ({ c with nest := c.nest + 1 }, true) := by rw [qe, if_pos he, if_pos (by omega)]
  have g1 := (qv c).1 hg
  rw [h0] at g1
  obtain ⟨h1, h2, h3, h4⟩ := qmw (c := { c with nest := c.nest + 1 }) hw he
  have hk : (qw { c with nest := c.nest + 1 }).kind = 5 := congrArg T.kind h1
  have hx : (qw { c with nest := c.nest + 1 }).text = [40] := congrArg T.text h1
  have hi : isK { c with nest := c.nest + 1 } [40] = true := q1e h1 he
  have t1 : ∀ x : List UInt8, x ≠ [40] → isK { c with nest := c.nest + 1 } x = false := fun x hxx => by
    unfold isK qe6
    rw [hx, decide_eq_false (p := [40] = x) (fun e => hxx e.symm)]; simp
  have hl : leafE { c with nest := c.nest + 1 } = none := by
    unfold leafE
    rw [hk]; simp
  have he2 : qe { c with nest := c.nest + 1 } = ({ c with nest := c.nest + 1 + 1 }, true) := by rw [qe, if_pos he, if_pos (by simp only; omega)]
  have g2 := (qv { c with nest := c.nest + 1 }).1 g1
  rw [he2] at g2
  obtain ⟨i1, i2, i3, i4⟩ := qmw (c := { c with nest := c.nest + 1 + 1 }) hw he
  refine ⟨qt { c with nest := c.nest + 1 + 1 }, i3, (qbm _).1 g2, i4, i2, ?_⟩
  have ha : qeg (qbt F) { c with nest := c.nest + 1 } = qky (qbt F (qt { c with nest := c.nest + 1 + 1 })) (qbt F) := by
    have hA : q8 (qbt F) { c with nest := c.nest + 1 } = if (qbt F (qt { c with nest := c.nest + 1 + 1 })).2.isSome = true then if (qq (qbt F (qt { c with nest := c.nest + 1 + 1 })).1 [41]).2 = true then (qbn (qq (qbt F (qt { c with nest := c.nest + 1 + 1 })).1 [41]).1, (qbt F (qt { c with nest := c.nest + 1 + 1 })).2) else ((qq (qbt F (qt { c with nest := c.nest + 1 + 1 })).1 [41]).1, none) else ((qbt F (qt { c with nest := c.nest + 1 + 1 })).1, none) := by
      rw [q8, hl, Option.isSome_none, if_neg noB, if_pos hi, he2, if_pos rfl]
    rw [qeg, hA, qky]
    generalize qbt F (qt { c with nest := c.nest + 1 + 1 }) = p
    obtain ⟨z, o⟩ := p
    cases o with
    | none => simp only [Option.isSome_none, if_neg noB, Option.getD_none]
    | some y =>
      simp only [Option.isSome_some, if_true]
      cases (qq z [41]).2 with
      | true => simp only [if_true, Option.isSome_some]
      | false => simp only [if_neg noB, Option.isSome_none, Option.getD_none]
  rw [qbt, h0, if_pos rfl]
  show (qbn (qcs (qbt F) { c with nest := c.nest + 1 }).1, (toO (qcs (qbt F) { c with nest := c.nest + 1 })).2) = _
  rw [qcs, qfs (t1 _ (by decide)), if_neg noB, qfs (t1 _ (by decide)), if_neg noB, qfs (t1 _ (by decide)), if_neg noB, qfs (t1 _ (by decide)), if_neg noB, ha]
theorem q3g {c : K} {e : Int} (h : c.err = e) (h0 : e ≠ 0) : (qeq c).2 = e := by
  unfold qeq
  rw [if_neg (by rw [h]; exact h0)]; exact h
/-- THE LAW: brackets change nothing, but the depth. -/
theorem qsm {s : List UInt8} (hs : s.length ≤ 3000) (h : (expK 2 s).2.2 = 0) : ((expK 2 (qdi s)).2.2 = 0 ∧ NS (expK 2 s).1 (expK 2 (qdi s)).1) ∨ (expK 2 (qdi s)).2.2 = 2 := by
  obtain ⟨hl, x, hx, hd, hp, he⟩ := q2y (Nat.le_refl _) h
  have hb := q64 (s := s) (by omega)
  have hc := q64 (s := qdi s) (by simp only [qdi, endB, List.length_cons, List.length_append, List.length_nil]; omega)
  have h0 : (wl s).2 = 0 := hb.1.1 hl
  have hw := qt5 h0
  have hl' : (lexV (qdi s)).2.2 = 0 := hc.1.2 (by rw [hw])
  obtain ⟨b1, b2, b3⟩ := hb.2 hl
  obtain ⟨c1, c2, c3⟩ := hc.2 hl'
  rw [hw] at c1
  have gb := qmp (qjc s).1
  have gc := qmp (qjc (qdi s)).1
  have lb : rest (newK (lexV s).1) = (wl s).1.length := by
    have := congrArg List.length b1
    simpa only [List.length_map, qlv] using this
  have lc : rest (newK (lexV (qdi s)).1) = (wl s).1.length + 2 := by
    have := congrArg List.length c1
    simpa only [List.length_map, List.length_cons, List.length_append, List.length_nil, qlv] using this
  obtain ⟨d, q1, q2, q3, q4, q5⟩ := qbhr (F := rest (newK (lexV (qdi s)).1) + 1) c3 gc (by rw [c2]; decide) c1
  have hst : Stop [tkn 5 [41]] := .inr ⟨_, rfl, rfl, .inl rfl⟩
  have hsm : Sm 2 [tkn 5 [41]] (newK (lexV s).1) d := ⟨gb, q2, by rw [List.map_append, q4, b1]; rfl, by rw [q3, b2, c2]; rfl, b3, q1⟩
  rcases qop hst _ (rest (newK (lexV (qdi s)).1) + 1) (by omega) _ _ hsm x hx with ⟨r1, x', r2, r3, r4⟩ | ⟨r1, r2⟩
  · left
    obtain ⟨e1, e2⟩ := q2g hd
    have h8 := r4.w
    rw [e2] at h8
    obtain ⟨p1, p2, p3, p4⟩ := qmw (c := (qbt (rest (newK (lexV (qdi s)).1) + 1) d).1) (b := tkn 5 [41]) (r := []) (by rw [h8]; rfl) r4.e'
    have hwt := qg3 (q1e p1 r4.e')
    have hrem : remT (qbn (qt (qbt (rest (newK (lexV (qdi s)).1) + 1) d).1)) = [] := by rw [(qgm _).1]; exact List.map_eq_nil_iff.1 p2
    have herr : (qbn (qt (qbt (rest (newK (lexV (qdi s)).1) + 1) d).1)).err = 0 := by rw [(qgm _).2]; exact p3
    have hB : begE (qbn (qt (qbt (rest (newK (lexV (qdi s)).1) + 1) d).1)) = false := by
      cases hq : begE (qbn (qt (qbt (rest (newK (lexV (qdi s)).1) + 1) d).1)) with
      | false => rfl
      | true =>
        have := qnd hq
        rw [qf2 hrem herr] at this; exact absurd rfl this
    have hR : qky (qbt (rest (newK (lexV (qdi s)).1) + 1) d) (qbt (rest (newK (lexV (qdi s)).1) + 1)) = (qbn (qt (qbt (rest (newK (lexV (qdi s)).1) + 1) d).1), x', true) := by
      rw [qky, r2, Option.isSome_some, if_pos rfl, hwt, if_pos rfl, qdj, hB, if_neg noB]; rfl
    rw [hR] at q5
    have hx' : (qbt (rest (newK (lexV (qdi s)).1) + 2) (newK (lexV (qdi s)).1)).2 = some x' := by rw [q5]; rfl
    have hd' : (qeq (qbt (rest (newK (lexV (qdi s)).1) + 2) (newK (lexV (qdi s)).1)).1).2 = 0 := by
      rw [q5]
      refine q09 ((qgm _).2.trans herr) ?_
      rw [(qgm _).1]; exact hrem
    have hk := qbhj hl' hx' hd' (by rw [← r3.dep]; exact hp)
    rw [hk, he]; exact ⟨rfl, r3⟩
  · right
    have hR : qky (qbt (rest (newK (lexV (qdi s)).1) + 1) d) (qbt (rest (newK (lexV (qdi s)).1) + 1)) = ((qbt (rest (newK (lexV (qdi s)).1) + 1) d).1, N0, false) := by
      rw [qky, r1, Option.isSome_none, if_neg noB]
    rw [hR] at q5
    have hd' : (qeq (qbt (rest (newK (lexV (qdi s)).1) + 2) (newK (lexV (qdi s)).1)).1).2 = 2 := by
      rw [q5]
      exact q3g ((qgm _).2.trans r2.1) (by decide)
    unfold expK qxp
    rw [if_pos hl']
    simp only
    unfold qs5
    rw [if_neg (by rw [hd']; decide)]
    exact hd'
end Go.Proofs.Ytmekebfgmjaenaa
