/- Texts of this proof, joined. -/
import Derived.Test.YtfjbmjplnmaclaaObf
import Derived.Test.YtfjbmjplnmaclaaOaw

/- readings that go side by side: the same words but for Pos, another nest, something behind: types -/
namespace Go.Proofs.Ytfjbmjplnmaclaa.EX
open Go Go.RowKit Go.V
set_option linter.unusedVariables false
set_option linter.unusedSimpArgs false

/-- The word itself; the tree itself. -/
def bare (t : T) : T := t
def qbg (n : N) : N := n
theorem qj0 (l : List N) : l.map qbg = l := List.map_id l
def remT (c : K) : List T := c.l.drop c.at'
/-- What stands behind the words: nothing, or what nobody takes. -/
def Stop (tl : List T) : Prop := tl = [] ∨ ∃ t, tl = [t] ∧ t.kind = 5 ∧ (t.text = [41] ∨ t.text = [125] ∨ t.text = [59])
structure Sm (δ : Int) (tl : List T) (c c' : K) : Prop where
  g : c.good
  g' : c'.good
  w : (remT c').map bare = (remT c ++ tl).map bare
  n : (c'.nest : Int) = c.nest + δ
  e : c.err = 0
  e' : c'.err = 0
def Lim (δ : Int) (c' : K) : Prop := c'.err = 2 ∧ 0 < δ
theorem Lim.mon {δ : Int} {c c' : K} (h : Lim δ c) (m : Mon c c') : Lim δ c' := ⟨by rw [m.2.2.1 (by rw [h.1]; decide), h.1], h.2⟩
/-- The same tree. -/
def NS (a b : N) : Prop := qbg a = qbg b
theorem NS.mk {k p p' m m' : Int} {t t' : List UInt8} {l l' : List N} (hp : p = p') (hm : m = m') (ht : t = t') (hl : l.map qbg = l'.map qbg) : NS (.mk k p m t l) (.mk k p' m' t' l') := by
  rw [qj0, qj0] at hl
  subst hp hm ht hl
  rfl
section
variable {δ : Int} {tl : List T} {c c' : K}
theorem qk5 (c : K) : (remT c).length = rest c := by simp [remT, rest]
theorem qey {t : T} {r : List T} (h : remT c = t :: r) (he : c.err = 0) : qw c = t ∧ c.at' < c.l.length := by
  have hl : c.at' < c.l.length := by
    have := congrArg List.length h
    simp [remT] at this; omega
  have h1 : c.l.getD c.at' T0 = t := by
    have := qbla hl
    unfold remT at h
    rw [h] at this
    exact (List.cons.inj this).1.symm
  rw [qn4 he (by omega)]
  exact ⟨h1, hl⟩
theorem qfm (h : remT c = []) (he : c.err = 0) : qw c = ⟨0, c.ep, 0, []⟩ := by
  refine qoe he ?_
  have := congrArg List.length h
  simp [remT] at this; omega
theorem qow {t : T} {r : List T} (h : remT c = t :: r) (he : c.err = 0) : remT (q7 c) = r ∧ (q7 c).err = 0 ∧ (q7 c).nest = c.nest := by
  obtain ⟨_, hl⟩ := qey h he
  rw [qtd he (by omega)]
  refine ⟨?_, he, rfl⟩
  have := qbla hl
  unfold remT at h
  rw [h] at this
  exact (List.cons.inj this).2.symm
/-- The next words: the same but for Pos; or the one is at its end. -/
theorem Sm.peek (h : Sm δ tl c c') : (∃ t t' r r', remT c = t :: r ∧ remT c' = t' :: r' ∧ bare t = bare t' ∧ r'.map bare = (r ++ tl).map bare ∧ qw c = t ∧ qw c' = t') ∨ (remT c = [] ∧ (remT c').map bare = tl.map bare ∧ qw c = ⟨0, c.ep, 0, []⟩) := by
  cases hr : remT c with
  | nil => exact .inr ⟨rfl, by rw [h.w, hr]; rfl, qfm hr h.e⟩
  | cons t r =>
    have hw := h.w
    rw [hr] at hw
    cases hr' : remT c' with
    | nil => rw [hr'] at hw; simp at hw
    | cons t' r' =>
      rw [hr'] at hw
      simp only [List.cons_append, List.map_cons, List.cons.injEq] at hw
      exact .inl ⟨t, t', r, r', rfl, rfl, hw.1.symm, hw.2, (qey hr h.e).1, (qey hr' h.e').1⟩
theorem qgp {t t' : T} (h : bare t = bare t') : t.kind = t'.kind := show (bare t).kind = (bare t').kind from congrArg T.kind h
theorem q0r {t t' : T} (h : bare t = bare t') : t.num = t'.num := show (bare t).num = (bare t').num from congrArg T.num h
theorem qdj {t t' : T} (h : bare t = bare t') : t.pos = t'.pos := show (bare t).pos = (bare t').pos from congrArg T.pos h
theorem qda {t t' : T} (h : bare t = bare t') : t.text = t'.text := show (bare t).text = (bare t').text from congrArg T.text h
theorem qhk {t t' : T} (h : bare t = bare t') (x : List UInt8) : qf0 t x = qf0 t' x := by unfold qf0; rw [qgp h, qda h]
theorem qq0 {t t' : T} (h : bare t = bare t') (x : List (List UInt8)) : qdi t x = qdi t' x := by unfold qdi; rw [qgp h, qda h]
theorem qot (hs : Stop tl) (h : Sm δ tl c c') (hr : remT c = []) : (qw c').kind = 0 ∨ ((qw c').kind = 5 ∧ ((qw c').text = [41] ∨ (qw c').text = [125] ∨ (qw c').text = [59])) := by
  have hw := h.w
  rw [hr, List.nil_append] at hw
  rcases hs with rfl | ⟨t, rfl, h1, h2⟩
  · have : remT c' = [] := by simpa using hw
    rw [qfm this h.e']; exact .inl rfl
  · cases hr' : remT c' with
    | nil => rw [hr'] at hw; simp at hw
    | cons t' r' =>
      rw [hr'] at hw
      simp only [List.map_cons, List.cons.injEq] at hw
      rw [(qey hr' h.e').1, qgp hw.1, qda hw.1]
      exact .inr ⟨h1, h2⟩
theorem Sm.kind (hs : Stop tl) (h : Sm δ tl c c') {k : Int} (h0 : k ≠ 0) (h5 : k ≠ 5) : (qw c').kind = k ↔ (qw c).kind = k := by
  rcases h.peek with ⟨t, t', r, r', _, _, hb, _, p1, p2⟩ | ⟨hr, _, p1⟩
  · rw [p1, p2, qgp hb]
  · rw [p1]
    rcases qot hs h hr with h1 | ⟨h1, _⟩ <;> rw [h1] <;> simp only <;> omega
/-- A word that is there is there in the other, too. -/
theorem Sm.there (h : Sm δ tl c c') {k : Int} (hk : (qw c).kind = k) (h0 : k ≠ 0) : bare (qw c') = bare (qw c) ∧ Sm δ tl (q7 c) (q7 c') ∧ (q7 c).nest = c.nest := by
  rcases h.peek with ⟨t, t', r, r', q1, q2, hb, hw, p1, p2⟩ | ⟨hr, _, p1⟩
  · obtain ⟨a1, a2, a3⟩ := qow q1 h.e
    obtain ⟨b1, b2, b3⟩ := qow q2 h.e'
    refine ⟨by rw [p1, p2, hb], ⟨(qb1 c).1 h.g, (qb1 c').1 h.g', ?_, ?_, a2, b2⟩, a3⟩
    · rw [a1, b1, hw]
    · rw [a3, b3]; exact h.n
  · rw [p1] at hk; exact absurd hk.symm h0
theorem Sm.is (hs : Stop tl) (h : Sm δ tl c c') {x : List UInt8} (h1 : x ≠ [41]) (h2 : x ≠ [125]) (h3 : x ≠ [59]) : isK c' x = isK c x := by
  unfold isK
  rw [decide_eq_true h.e, decide_eq_true h.e', Bool.true_and, Bool.true_and]
  rcases h.peek with ⟨t, t', r, r', _, _, hb, _, p1, p2⟩ | ⟨hr, _, p1⟩
  · rw [p1, p2, qhk hb]
  · have hf : qf0 (qw c) x = false := by rw [p1]; simp [qf0]
    rw [hf]
    unfold qf0
    rcases qot hs h hr with q | ⟨_, q | q | q⟩
    · rw [q]; simp
    · rw [q, decide_eq_false (p := [41] = x) (fun e => h1 e.symm), Bool.and_false]
    · rw [q, decide_eq_false (p := [125] = x) (fun e => h2 e.symm), Bool.and_false]
    · rw [q, decide_eq_false (p := [59] = x) (fun e => h3 e.symm), Bool.and_false]
theorem Sm.isT (h : Sm δ tl c c') {x : List UInt8} (hx : isK c x = true) : isK c' x = true ∧ Sm δ tl (q7 c) (q7 c') ∧ (q7 c).nest = c.nest := by
  obtain ⟨hb, hn, h1⟩ := h.there rfl (qcv hx)
  refine ⟨?_, hn, h1⟩
  unfold isK at hx ⊢
  rw [qhk hb, decide_eq_true h.e']
  rw [decide_eq_true h.e] at hx
  exact hx
theorem Sm.tpos (h : Sm δ tl c c') {x : List UInt8} (hx : (qs c x).2 = true) : (qw c).pos = (qw c').pos := by
  have hi : isK c x = true := by
    cases hi : isK c x with
    | true => rfl
    | false => rw [qf1 hi] at hx; cases hx
  exact (qdj (h.there rfl (qcv hi)).1).symm
theorem Sm.take (hs : Stop tl) (h : Sm δ tl c c') {x : List UInt8} (h1 : x ≠ [41]) (h2 : x ≠ [125]) (h3 : x ≠ [59]) : (qs c' x).2 = (qs c x).2 ∧ Sm δ tl (qs c x).1 (qs c' x).1 ∧ (qs c x).1.nest = c.nest := by
  cases hx : isK c x with
  | true =>
    obtain ⟨k1, k2, k3⟩ := h.isT hx
    rw [qiq hx, qiq k1]; exact ⟨rfl, k2, k3⟩
  | false => rw [qf1 hx, qf1 (by rw [h.is hs h1 h2 h3]; exact hx)]; exact ⟨rfl, h, rfl⟩
theorem Sm.want (h : Sm δ tl c c') {x : List UInt8} (hx : (qq c x).2 = true) : (qq c' x).2 = true ∧ Sm δ tl (qq c x).1 (qq c' x).1 ∧ (qq c x).1.nest = c.nest := by
  have hi : isK c x = true := by
    cases hi : isK c x with
    | true => rfl
    | false => rw [qq, hi] at hx; cases hx
  obtain ⟨k1, k2, k3⟩ := h.isT hi
  rw [qjy hi, qjy k1]; exact ⟨rfl, k2, k3⟩
theorem Sm.enter (h : Sm δ tl c c') (hx : (qi c).2 = true) : ((qi c').2 = true ∧ Sm δ tl (qi c).1 (qi c').1 ∧ (qi c).1.nest = c.nest + 1) ∨ ((qi c').2 = false ∧ Lim δ (qi c').1) := by
  obtain ⟨_, e2, e3⟩ := qhm hx
  have hlt : c.nest < 200 := by
    by_cases hq : c.nest < 200
    · exact hq
    · rw [qi, if_pos h.e, if_neg hq] at hx; cases hx
  by_cases hq : c'.nest < 200
  · have he : qi c' = ({ c' with nest := c'.nest + 1 }, true) := by rw [qi, if_pos h.e', if_pos hq]
    refine .inl ⟨by rw [he], ⟨(q8 c).1 h.g, (q8 c').1 h.g', ?_, ?_, e2, by rw [he]; exact h.e'⟩, by rw [e3]⟩
    · rw [he, e3]; exact h.w
    · rw [he, e3]; have := h.n; simp only; omega
  · have he : qi c' = (qd3 c' 2, false) := by rw [qi, if_pos h.e', if_neg hq]
    refine .inr ⟨by rw [he], ?_, by have := h.n; omega⟩
    rw [he, q7i h.e' (by decide)]
theorem Sm.leave (h : Sm δ tl c c') {m : Nat} (hm : c.nest = m + 1) (hd : 0 ≤ (m : Int) + δ) : Sm δ tl (qci c) (qci c') ∧ (qci c).nest = m := by
  have hn := h.n
  have h1 : qci c = { c with nest := c.nest - 1 } := by rw [qci, if_pos h.e, if_pos (by omega)]
  have h2 : qci c' = { c' with nest := c'.nest - 1 } := by rw [qci, if_pos h.e', if_pos (by omega)]
  refine ⟨⟨(qbh c).1 h.g, (qbh c').1 h.g', ?_, ?_, by rw [h1]; exact h.e, by rw [h2]; exact h.e'⟩, by rw [h1]; simp only; omega⟩
  · rw [h1, h2]; exact h.w
  · rw [h1, h2]; simp only; omega
theorem Sm.kindK (h : Sm δ tl c c') {k : Int} (h0 : k ≠ 0) (hx : (kindK c k).2 = true) : (Go.Proofs.Ytfjbmjplnmaclaa.kindK c' k).2 = true ∧ Sm δ tl (Go.Proofs.Ytfjbmjplnmaclaa.kindK c k).1 (Go.Proofs.Ytfjbmjplnmaclaa.kindK c' k).1 ∧ (Go.Proofs.Ytfjbmjplnmaclaa.kindK c k).1.nest = c.nest ∧ bare (qef c' k) = bare (qef c k) := by
  obtain ⟨e1, e2⟩ := qh4 hx
  obtain ⟨hb, hn, h1⟩ := h.there e2 h0
  have hk' : (qw c').kind = k := by rw [qgp hb]; exact e2
  rw [ql6 e1 e2, ql6 h.e' hk', qpx e1 e2, qpx h.e' hk']
  exact ⟨rfl, hn, h1, hb⟩
end
/-- Both read, side by side: the other reads the same, or goes too deep. -/
def Side {α : Type} (R : α → α → Prop) (δ : Int) (tl : List T) (c : K) (p p' : K × Option α) : Prop :=
  ∀ x, p.2 = some x → (p.1.nest = c.nest ∧ ∃ x', p'.2 = some x' ∧ R x x' ∧ Sm δ tl p.1 p'.1) ∨ (p'.2 = none ∧ Lim δ p'.1)
end Go.Proofs.Ytfjbmjplnmaclaa.EX

/- readings side by side: types -/
namespace Go.Proofs.Ytfjbmjplnmaclaa.EX
open Go Go.RowKit Go.V
set_option linter.unusedVariables false
set_option linter.unusedSimpArgs false
set_option linter.unusedSectionVars false

section
variable {δ : Int} {tl : List T} {rec rec' : K → K × Option N} (hs : Stop tl) (hr : ∀ c c', Sm δ tl c c' → Side NS δ tl c (rec c) (rec' c'))
include hs hr
theorem qg9 (c c' : K) (h : Sm δ tl c c') : Side NS δ tl c (qbo rec c) (qbo rec' c') := by
  intro x hx
  by_cases h1 : (qw c).kind = 1
  · have h1' := (h.kind hs (by decide) (by decide)).2 h1
    obtain ⟨hb, hn, e⟩ := h.there h1 (by decide)
    rw [qbo, if_pos h1] at hx ⊢
    rw [qbo, if_pos h1']
    cases hx
    exact .inl ⟨e, _, rfl, NS.mk (qdj hb).symm rfl (qda hb).symm rfl, hn⟩
  have h1' : ¬ (qw c').kind = 1 := fun q => h1 ((h.kind hs (by decide) (by decide)).1 q)
  by_cases h2 : (qw c).kind = 2
  · have h2' := (h.kind hs (by decide) (by decide)).2 h2
    obtain ⟨hb, hn, e⟩ := h.there h2 (by decide)
    rw [qbo, if_neg h1, if_pos h2] at hx ⊢
    rw [qbo, if_neg h1', if_pos h2']
    cases hx
    exact .inl ⟨e, _, rfl, NS.mk (qdj hb).symm rfl (qda hb).symm rfl, hn⟩
  have h2' : ¬ (qw c').kind = 2 := fun q => h2 ((h.kind hs (by decide) (by decide)).1 q)
  by_cases hk : isK c [40] = true
  · have hk' := (h.isT hk).1
    rw [qbo, if_neg h1, if_neg h2, if_pos hk] at hx ⊢
    rw [qbo, if_neg h1', if_neg h2', if_pos hk']
    cases he : (qi c).2 with
    | false => rw [he] at hx; cases hx
    | true =>
      rw [he, if_pos rfl] at hx
      rw [if_pos rfl]
      rcases h.enter he with ⟨e1, e2, e3⟩ | ⟨e1, e2⟩
      · rw [e1, if_pos rfl]
        obtain ⟨_, g1, g2⟩ := e2.there rfl (by rw [qc1 he]; exact qcv hk)
        cases hy : (rec (q7 (qi c).1)).2 with
        | none => rw [hy] at hx; cases hx
        | some y =>
          rw [hy, Option.isSome_some, if_pos rfl] at hx
          rw [Option.isSome_some, if_pos rfl]
          rcases hr _ _ g1 y hy with ⟨q1, y', q2, q3, q4⟩ | ⟨q1, q2⟩
          · rw [q2, Option.isSome_some, if_pos rfl]
            cases hw : (qq (rec (q7 (qi c).1)).1 [41]).2 with
            | false => rw [hw] at hx; cases hx
            | true =>
              obtain ⟨w1, w2, w3⟩ := q4.want hw
              obtain ⟨l1, l2⟩ := w2.leave (m := c.nest) (by omega) (by have := h.n; omega)
              rw [hw, if_pos rfl] at hx
              cases hx
              rw [w1]
              exact .inl ⟨l2, y', rfl, q3, l1⟩
          · rw [q1]
            exact .inr ⟨rfl, q2.mon (qbh _)⟩
      · rw [e1]; exact .inr ⟨rfl, e2⟩
  · rw [qbo, if_neg h1, if_neg h2, if_neg hk] at hx; cases hx
theorem Sm.begT {c c' : K} (h : Sm δ tl c c') : Go.Proofs.Ytfjbmjplnmaclaa.begT c' = Go.Proofs.Ytfjbmjplnmaclaa.begT c := by
  unfold Go.Proofs.Ytfjbmjplnmaclaa.begT
  rw [h.is hs (by decide) (by decide) (by decide)]
  have h1 := h.kind hs (k := 1) (by decide) (by decide)
  have h2 := h.kind hs (k := 2) (by decide) (by decide)
  simp only [h1, h2]
theorem qm9 : ∀ (f f' : Nat), f ≤ f' → ∀ (c c' : K) (a a' : List N), Sm δ tl c c' → a.map qbg = a'.map qbg → Side (fun x y => x.map qbg = y.map qbg) δ tl c (qdk rec f c a) (qdk rec' f' c' a')
  | 0, f', _, c, c', a, a', h, ha => fun x hx => by cases hx
  | f + 1, 0, hf, _, _, _, _, _, _ => by omega
  | f + 1, f' + 1, hf, c, c', a, a', h, ha => fun x hx => by
    have hb := Sm.begT hs hr h
    cases hc : begT c with
    | false =>
      rw [qdk, hc, if_neg (by decide)] at hx ⊢
      rw [qdk, hb, hc, if_neg (by decide)]
      cases hx
      exact .inl ⟨rfl, _, rfl, ha, h⟩
    | true =>
      rw [qdk, hc, if_pos rfl] at hx ⊢
      rw [qdk, hb, hc, if_pos rfl]
      cases hy : (qbo rec c).2 with
      | none => rw [hy] at hx; cases hx
      | some y =>
        rw [hy, Option.isSome_some, if_pos rfl] at hx
        rw [Option.isSome_some, if_pos rfl]
        rcases qg9 hs hr c c' h y hy with ⟨q1, y', q2, q3, q4⟩ | ⟨q1, q2⟩
        · rw [q2, Option.isSome_some, if_pos rfl]
          have hl : (a ++ [y]).map qbg = (a' ++ [y']).map qbg := by simp only [List.map_append, ha, List.map_cons, show qbg y = qbg y' from q3]
          rcases qm9 f f' (by omega) _ _ (a ++ [y]) (a' ++ [y']) q4 hl x hx with ⟨r1, r2⟩ | r
          · exact .inl ⟨by simp only [Option.getD_some]; rw [r1, q1], r2⟩
          · exact .inr r
        · rw [q1]; exact .inr ⟨rfl, q2⟩
theorem q9o {c : K} {p p' : K × Option (List N)} {k : Int} (d d' : K) (hpo : (qw d).pos = (qw d').pos) (ht : (qw d).text = (qw d').text) (h : Side (fun x y => x.map qbg = y.map qbg) δ tl c p p') : Side NS δ tl c (p.1, p.2.map (qho d k)) (p'.1, p'.2.map (qho d' k)) := by
  intro x hx
  cases hy : p.2 with
  | none => simp only [hy] at hx; cases hx
  | some y =>
    simp only [hy, Option.map_some, Option.some.injEq] at hx
    subst hx
    rcases h y hy with ⟨q1, y', q2, q3, q4⟩ | ⟨q1, q2⟩
    · exact .inl ⟨q1, qho d' k y', by simp only [q2]; rfl, NS.mk hpo rfl ht q3, q4⟩
    · exact .inr ⟨by simp only [q1]; rfl, q2⟩
theorem qx8 (c c' : K) (h : Sm δ tl c c') : Side NS δ tl c (qb6 rec c) (qb6 rec' c') := by
  unfold qb6
  by_cases h2 : (qw c).kind = 2
  · have h2' := (h.kind hs (by decide) (by decide)).2 h2
    obtain ⟨hb, hn, e⟩ := h.there h2 (by decide)
    rw [if_pos h2, if_pos h2']
    have hle : rest c ≤ rest c' := by
      have := congrArg List.length h.w
      simp only [List.length_map, List.length_append, qk5] at this
      omega
    have hk := qm9 hs hr (rest c + 1) (rest c' + 1) (by omega) _ _ [] [] hn rfl
    intro x hx
    rcases q9o hs hr c c' (k := 2) (qdj hb).symm (qda hb).symm hk x hx with ⟨r1, r2⟩ | r
    · exact .inl ⟨r1.trans e, r2⟩
    · exact .inr r
  · rw [if_neg h2, if_neg (fun q => h2 ((h.kind hs (by decide) (by decide)).1 q))]
    exact qg9 hs hr c c' h
end
theorem Sm.le {δ : Int} {tl : List T} {c c' : K} (h : Sm δ tl c c') : rest c ≤ rest c' := by
  have := congrArg List.length h.w
  simp only [List.length_map, List.length_append, qk5] at this
  omega
theorem qjn {δ : Int} {tl : List T} (hs : Stop tl) : ∀ (f f' : Nat), f ≤ f' → ∀ (c c' : K), Sm δ tl c c' → Side NS δ tl c (qbu f c) (qbu f' c')
  | 0, f', _, c, c', h => fun x hx => by cases hx
  | f + 1, 0, hf, _, _, _ => by omega
  | f + 1, f' + 1, hf, c, c', h => fun x hx => by
    have hr : ∀ d d', Sm δ tl d d' → Side NS δ tl d (qbu f d) (qbu f' d') := fun d d' h => qjn hs f f' (by omega) d d' h
    rw [qbu] at hx ⊢
    rw [qbu]
    cases he : (qi c).2 with
    | false => rw [he] at hx; cases hx
    | true =>
      rw [he, if_pos rfl] at hx
      rw [if_pos rfl]
      rcases h.enter he with ⟨e1, e2, e3⟩ | ⟨e1, e2⟩
      · rw [e1, if_pos rfl]
        have hn := h.n
        cases hy : (qb6 (qbu f) (qi c).1).2 with
        | none => rw [hy] at hx; cases hx
        | some y =>
          rw [hy, Option.isSome_some, if_pos rfl] at hx
          rw [Option.isSome_some, if_pos rfl]
          rcases qx8 hs hr _ _ e2 y hy with ⟨q1, y', q2, q3, q4⟩ | ⟨q1, q2⟩
          · rw [q2, Option.isSome_some, if_pos rfl]
            obtain ⟨t1, t2, t3⟩ := q4.take hs (x := [45, 62]) (by decide) (by decide) (by decide)
            rw [t1]
            cases ht : (qs (qb6 (qbu f) (qi c).1).1 [45, 62]).2 with
            | false =>
              rw [ht, if_neg (by decide)] at hx
              rw [if_neg (by decide), if_neg (by decide)]
              cases hx
              obtain ⟨l1, l2⟩ := q4.leave (m := c.nest) (by omega) (by omega)
              exact .inl ⟨l2, y', rfl, q3, l1⟩
            | true =>
              rw [ht, if_pos rfl] at hx
              rw [if_pos rfl, if_pos rfl]
              cases hz : (qbu f (qs (qb6 (qbu f) (qi c).1).1 [45, 62]).1).2 with
              | none => rw [hz] at hx; cases hx
              | some z =>
                rw [hz] at hx
                simp only [Option.map_some, Option.getD_some, Option.some.injEq] at hx
                subst hx
                rcases hr _ _ t2 z hz with ⟨u1, z', u2, u3, u4⟩ | ⟨u1, u2⟩
                · obtain ⟨l1, l2⟩ := u4.leave (m := c.nest) (by omega) (by omega)
                  rw [u2]
                  exact .inl ⟨l2, _, rfl, NS.mk (congrArg N.pos (show y = y' from q3)) rfl rfl (by simp only [List.map_cons, Option.getD_some, show qbg y = qbg y' from q3, show qbg z = qbg z' from u3]), l1⟩
                · rw [u1]
                  exact .inr ⟨rfl, u2.mon (qbh _)⟩
          · rw [q1]
            exact .inr ⟨rfl, q2.mon (qbh _)⟩
      · rw [e1]; exact .inr ⟨rfl, e2⟩

theorem noB : ¬ (false = true) := by decide
theorem qj4 (x : List UInt8) : ∀ (l l' : List T) (d : Int), l.map bare = l'.map bare → qex x l d = qex x l' d
  | [], [], d, _ => rfl
  | [], t :: r, d, h => by simp at h
  | t :: r, [], d, h => by simp at h
  | t :: r, t' :: r', d, h => by
    simp only [List.map_cons, List.cons.injEq] at h
    rw [qex, qex, qq0 h.1, qq0 h.1, qhk h.1, qhk h.1, qj4 x r r' (d + 1) h.2, qj4 x r r' (d - 1) h.2, qj4 x r r' d h.2]
theorem qj3 {tl : List T} (hs : Stop tl) (x : List UInt8) : ∀ (l : List T) (d : Int), qex x (l ++ tl) d = qex x l d
  | [], d => by
    rw [List.nil_append]
    rcases hs with rfl | ⟨t, rfl, h1, h2⟩
    · rfl
    · rcases h2 with h2 | h2 | h2 <;> simp [qex, qdi, qf0, h1, h2]
  | t :: r, d => by
    rw [List.cons_append, qex, qex, qj3 hs x r (d + 1), qj3 hs x r (d - 1), qj3 hs x r d]
section
variable {δ : Int} {tl : List T} (hs : Stop tl)
include hs
theorem Sm.ahead {c c' : K} (h : Sm δ tl c c') (x : List UInt8) : qhl c' x = qhl c x := by
  rw [qhl, qhl, if_pos h.e, if_pos h.e']
  show qex x (remT c') 0 = qex x (remT c) 0
  rw [qj4 x _ _ 0 h.w, qj3 hs]
theorem Sm.failT {c c' : K} (h : Sm δ tl c c') (hf : Go.Proofs.Ytfjbmjplnmaclaa.failT c = false) : Go.Proofs.Ytfjbmjplnmaclaa.failT c' = false := by
  unfold Go.Proofs.Ytfjbmjplnmaclaa.failT qgv at hf ⊢
  rw [if_pos h.e] at hf
  rw [if_pos h.e']
  by_cases hl' : c'.at' < c'.l.length
  · rw [if_pos hl']
    simp only [Bool.and_eq_false_iff, Bool.not_eq_false', decide_eq_true_eq, Bool.or_eq_false_iff, decide_eq_false_iff_not]
    refine .inr ⟨trivial, ?_⟩
    rcases h.peek with ⟨t, t', r, r', q1, q2, hb, _, p1, p2⟩ | ⟨hr, _, p1⟩
    · have hl : c.at' < c.l.length := (qey q1 h.e).2
      rw [if_pos hl] at hf
      rw [p2, ← qgp hb, ← p1]
      simpa using hf
    · rcases qot hs h hr with q | ⟨q, _⟩
      · have hn : remT c' ≠ [] := by
          intro e
          have := congrArg List.length e
          simp [remT] at this; omega
        cases hq : remT c' with
        | nil => exact absurd hq hn
        | cons t' r' =>
          have hw := h.w
          rw [hr, hq] at hw
          rcases hs with rfl | ⟨t, rfl, h1, _⟩
          · simp at hw
          · simp only [List.nil_append, List.map_cons, List.cons.injEq] at hw
            rw [(qey hq h.e').1, qgp hw.1, h1]; decide
      · rw [q]; decide
  · rw [if_neg hl']; rfl
variable {rec rec' : K → K × Option N} (hr : ∀ c c', Sm δ tl c c' → Side NS δ tl c (rec c) (rec' c'))
include hr
theorem qwp (c c' : K) (h : Sm δ tl c c') : Side NS δ tl c (qbi rec c) (qbi rec' c') := by
  intro x hx
  cases hk : (kindK c 2).2 with
  | false => rw [qbi, hk] at hx; cases hx
  | true =>
    obtain ⟨k1, k2, k3, k4⟩ := h.kindK (by decide) hk
    rw [qbi, hk, if_pos rfl] at hx ⊢
    rw [qbi, k1, if_pos rfl]
    cases hy : (qbo rec (kindK c 2).1).2 with
    | none => rw [hy] at hx; cases hx
    | some y =>
      rw [hy] at hx
      simp only [Option.map_some, Option.some.injEq] at hx
      subst hx
      rcases qg9 hs hr _ _ k2 y hy with ⟨q1, y', q2, q3, q4⟩ | ⟨q1, q2⟩
      · rw [q2]
        exact .inl ⟨q1.trans k3, _, rfl, NS.mk (qdj k4).symm rfl (qda k4).symm (by simp only [List.map_cons, show qbg y = qbg y' from q3]), q4⟩
      · rw [q1]; exact .inr ⟨rfl, q2⟩
theorem qqa (many : Bool) : ∀ (f f' : Nat), f ≤ f' → ∀ (c c' : K) (a a' : List N), Sm δ tl c c' → a.map qbg = a'.map qbg → Side (fun x y => x.map qbg = y.map qbg) δ tl c (qd7 rec many f c a) (qd7 rec' many f' c' a')
  | 0, f', _, c, c', a, a', h, ha => fun x hx => by cases hx
  | f + 1, 0, hf, _, _, _, _, _, _ => by omega
  | f + 1, f' + 1, hf, c, c', a, a', h, ha => fun x hx => by
    rw [qd7] at hx ⊢
    rw [qd7]
    cases hy : (qbi rec c).2 with
    | none => rw [hy] at hx; cases hx
    | some y =>
      rw [hy, Option.isSome_some, if_pos rfl] at hx
      rw [Option.isSome_some, if_pos rfl]
      rcases qwp hs hr c c' h y hy with ⟨q1, y', q2, q3, q4⟩ | ⟨q1, q2⟩
      · rw [q2, Option.isSome_some, if_pos rfl]
        have hl : (a ++ [y]).map qbg = (a' ++ [y']).map qbg := by simp only [List.map_append, ha, List.map_cons, show qbg y = qbg y' from q3]
        obtain ⟨t1, t2, t3⟩ := q4.take hs (x := [44]) (by decide) (by decide) (by decide)
        rw [t1]
        simp only [Option.getD_some] at hx ⊢
        cases hb : (many && (qs (qbi rec c).1 [44]).2) with
        | false =>
          rw [hb, if_neg noB] at hx
          rw [if_neg noB, if_neg noB]
          cases hx
          exact .inl ⟨q1, _, rfl, hl, q4⟩
        | true =>
          rw [hb, if_pos rfl] at hx
          rw [if_pos rfl, if_pos rfl]
          rcases qqa many f f' (by omega) _ _ (a ++ [y]) (a' ++ [y']) t2 hl x hx with ⟨r1, r2⟩ | r
          · exact .inl ⟨by rw [r1, t3, q1], r2⟩
          · exact .inr r
      · rw [q1]; exact .inr ⟨rfl, q2⟩
theorem qx0 (many : Bool) (c : K) (p p' : K × Option (List N)) (h : Side (fun x y => x.map qbg = y.map qbg) δ tl c p p') : Side (fun x y => x.map qbg = y.map qbg) δ tl c (qej many p) (qej many p') := by
  intro x hx
  cases hy : p.2 with
  | none => rw [qej, hy] at hx; cases hx
  | some y =>
    rw [qej, hy, Option.isSome_some, if_pos rfl] at hx ⊢
    rw [qej]
    rcases h y hy with ⟨q1, y', q2, q3, q4⟩ | ⟨q1, q2⟩
    · rw [q2, Option.isSome_some, if_pos rfl]
      cases many with
      | true =>
        rw [if_pos rfl] at hx ⊢
        rw [if_pos rfl]
        cases hw : (qq p.1 [41]).2 with
        | false => rw [hw] at hx; cases hx
        | true =>
          obtain ⟨w1, w2, w3⟩ := q4.want hw
          rw [hw, if_pos rfl] at hx
          rw [w1, if_pos rfl, if_pos rfl]
          cases hv : (qq (qq p.1 [41]).1 [61, 62]).2 with
          | false => rw [hv] at hx; cases hx
          | true =>
            obtain ⟨v1, v2, v3⟩ := w2.want hv
            rw [hv, if_pos rfl] at hx
            rw [v1]
            cases hx
            exact .inl ⟨v3.trans (w3.trans q1), y', rfl, q3, v2⟩
      | false =>
        rw [if_neg noB] at hx ⊢
        rw [if_neg noB]
        cases hv : (qq p.1 [61, 62]).2 with
        | false => rw [hv] at hx; cases hx
        | true =>
          obtain ⟨v1, v2, v3⟩ := q4.want hv
          rw [hv, if_pos rfl] at hx
          rw [v1]
          cases hx
          exact .inl ⟨v3.trans q1, y', rfl, q3, v2⟩
    · rw [q1]; exact .inr ⟨rfl, q2⟩
/-- Where words are left, the two see the same word. -/
theorem Sm.isN {c c' : K} (h : Sm δ tl c c') (hn : remT c ≠ []) (x : List UInt8) : isK c' x = isK c x := by
  unfold isK
  rw [decide_eq_true h.e, decide_eq_true h.e', Bool.true_and, Bool.true_and]
  rcases h.peek with ⟨t, t', r, r', _, _, hb, _, p1, p2⟩ | ⟨hr, _, p1⟩
  · rw [p1, p2, qhk hb]
  · exact absurd hr hn
theorem qwz (c c' : K) (h : Sm δ tl c c') : Side (fun x y => x.map qbg = y.map qbg) δ tl c (qe9 rec c) (qe9 rec' c') := by
  intro x hx
  obtain ⟨t1, t2, t3⟩ := h.take hs (x := [40]) (by decide) (by decide) (by decide)
  by_cases hn : remT (qs c [40]).1 = []
  · have hk : isK (qs c [40]).1 [41] = false := by
      unfold isK; rw [qfm hn t2.e]; simp [qf0]
    rw [qe9, hk, Bool.and_false, if_neg noB, qd7] at hx
    have : (qbi rec (qs c [40]).1).2 = none := by
      cases hq : (kindK (qs c [40]).1 2).2 with
      | false => rw [qbi, hq]; rfl
      | true =>
        have := (qh4 hq).2
        rw [qfm hn t2.e] at this; cases this
    rw [this] at hx; cases hx
  · have hk := Sm.isN hs hr t2 hn [41]
    rw [qe9] at hx ⊢
    rw [qe9, t1, hk]
    cases hb : ((qs c [40]).2 && isK (qs c [40]).1 [41]) with
    | true =>
      rw [hb, if_pos rfl] at hx
      rw [if_pos rfl, if_pos rfl]
      cases hx
      exact .inl ⟨t3, _, rfl, rfl, t2⟩
    | false =>
      rw [hb, if_neg noB] at hx
      rw [if_neg noB, if_neg noB]
      have hle := t2.le
      rcases qqa hs hr (qs c [40]).2 (rest (qs c [40]).1 + 1) (rest (qs c' [40]).1 + 1) (by omega) _ _ [] [] t2 rfl x hx with ⟨r1, r2⟩ | r
      · exact .inl ⟨r1.trans t3, r2⟩
      · exact .inr r
theorem qlh (c c' : K) (h : Sm δ tl c c') : Side (fun x y => x.map qbg = y.map qbg) δ tl c (q9 rec c) (q9 rec' c') := by
  rw [q9, q9, h.ahead hs]
  cases ha : qhl c [61, 62] with
  | true =>
    rw [if_pos rfl, if_pos rfl, (h.take hs (x := [40]) (by decide) (by decide) (by decide)).1]
    exact qx0 hs hr _ c _ _ (qwz hs hr c c' h)
  | false =>
    rw [if_neg noB, if_neg noB]
    intro x hx
    cases hf : failT c with
    | true => rw [hf] at hx; cases hx
    | false =>
      rw [hf] at hx
      rw [Sm.failT hs h hf]
      cases hx
      exact .inl ⟨rfl, _, rfl, rfl, h⟩
end
theorem qba1 {f : Nat} {c : K} (hn : remT c = []) : (qbu f c).2 = none := by
  cases f with
  | zero => rfl
  | succ f =>
    rw [qbu]
    cases he : (qi c).2 with
    | false => rw [if_neg noB]
    | true =>
      have h0 : c.err = 0 := (qhm he).1
      have hp := qc1 he
      rw [qfm hn h0] at hp
      have hk : isK (qi c).1 [40] = false := by
        unfold isK qf0
        rw [hp]; simp
      have hr : (qb6 (qbu f) (qi c).1).2 = none := by
        rw [qb6, if_neg (by rw [hp]; exact (by decide : ¬ (0 : Int) = 2)), qbo, if_neg (by rw [hp]; exact (by decide : ¬ (0 : Int) = 1)), if_neg (by rw [hp]; exact (by decide : ¬ (0 : Int) = 2)), hk, if_neg noB]
      rw [if_pos rfl, hr, Option.isSome_none, if_neg noB]
theorem q43 {f g : Nat} {c : K} {z : N} (h : (qbu f (q9 (qbu g) c).1).2 = some z) : remT c ≠ [] := by
  intro hn
  have h1 := (qew (qcn g) c).2.1
  have h2 : remT (q9 (qbu g) c).1 = [] := by
    apply List.eq_nil_of_length_eq_zero
    rw [qk5]
    have : rest c = 0 := by rw [← qk5, hn]; rfl
    omega
  rw [qba1 h2] at h; cases h
theorem Sm.posN {δ : Int} {tl : List T} {c c' : K} (h : Sm δ tl c c') (hn : remT c ≠ []) : (qw c).pos = (qw c').pos := by
  rcases h.peek with ⟨t, t', r, r', _, _, hb, _, p1, p2⟩ | ⟨hr, _, _⟩
  · rw [p1, p2, qdj hb]
  · exact absurd hr hn
theorem qut {δ : Int} {tl : List T} (hs : Stop tl) (f f' : Nat) (hf : f ≤ f') (c c' : K) (h : Sm δ tl c c') : Side NS δ tl c (qed f c) (qed f' c') := by
  intro x hx
  have hr := qjn (δ := δ) hs f f' hf
  rw [qed] at hx ⊢
  rw [qed]
  cases hy : (q9 (qbu f) c).2 with
  | none => rw [hy] at hx; cases hx
  | some y =>
    rw [hy, Option.isSome_some, if_pos rfl] at hx
    rw [Option.isSome_some, if_pos rfl]
    rcases qlh hs hr c c' h y hy with ⟨q1, y', q2, q3, q4⟩ | ⟨q1, q2⟩
    · rw [q2, Option.isSome_some, if_pos rfl]
      cases hz : (qbu f (q9 (qbu f) c).1).2 with
      | none => rw [hz] at hx; cases hx
      | some z =>
        rw [hz] at hx
        simp only [Option.map_some, Option.getD_some, Option.some.injEq] at hx
        subst hx
        rcases hr _ _ q4 z hz with ⟨u1, z', u2, u3, u4⟩ | ⟨u1, u2⟩
        · rw [u2]
          exact .inl ⟨u1.trans q1, _, rfl, NS.mk (Sm.posN h (q43 hz)) rfl rfl (by simp only [List.map_append, Option.getD_some, q3, List.map_cons, show qbg z = qbg z' from u3]), u4⟩
        · rw [u1]; exact .inr ⟨rfl, u2⟩
    · rw [q1]; exact .inr ⟨rfl, q2⟩

section
variable {δ : Int} {tl : List T} (hs : Stop tl)
include hs
theorem Sm.leafP {c c' : K} (h : Sm δ tl c c') : (∀ n, Go.Proofs.Ytfjbmjplnmaclaa.leafP c = some n → ∃ n', Go.Proofs.Ytfjbmjplnmaclaa.leafP c' = some n' ∧ NS n n' ∧ (qw c).kind ≠ 0) ∧ (Go.Proofs.Ytfjbmjplnmaclaa.leafP c = none → Go.Proofs.Ytfjbmjplnmaclaa.leafP c' = none) := by
  have h1 := h.kind hs (k := 1) (by decide) (by decide)
  have h2 := h.kind hs (k := 2) (by decide) (by decide)
  have h3 := h.kind hs (k := 3) (by decide) (by decide)
  have h4 := h.is hs (x := [95]) (by decide) (by decide) (by decide)
  have hb : (qw c).kind ≠ 0 → bare (qw c') = bare (qw c) := fun q => (h.there rfl q).1
  refine ⟨fun n hn => ?_, fun hn => ?_⟩
  · have hk := qiz hn
    have hb := hb hk
    unfold Go.Proofs.Ytfjbmjplnmaclaa.leafP at hn ⊢
    simp only [h1, h2, h3, h4]
    split at hn
    · rename_i q; rw [if_pos q]; cases hn; exact ⟨_, rfl, NS.mk (qdj hb).symm rfl (qda hb).symm rfl, hk⟩
    · rename_i q; rw [if_neg q]
      split at hn
      · rename_i q; rw [if_pos q]; cases hn; exact ⟨_, rfl, NS.mk (qdj hb).symm rfl (qda hb).symm rfl, hk⟩
      · rename_i q; rw [if_neg q]
        split at hn
        · rename_i q; rw [if_pos q]; cases hn; exact ⟨_, rfl, NS.mk (qdj hb).symm (q0r hb).symm rfl rfl, hk⟩
        · rename_i q; rw [if_neg q]
          split at hn
          · rename_i q; rw [if_pos q]; cases hn; exact ⟨_, rfl, NS.mk (qdj hb).symm rfl rfl rfl, hk⟩
          · cases hn
  · unfold Go.Proofs.Ytfjbmjplnmaclaa.leafP at hn ⊢
    simp only [h1, h2, h3, h4]
    split at hn
    · cases hn
    · rename_i q; rw [if_neg q]
      split at hn
      · cases hn
      · rename_i q; rw [if_neg q]
        split at hn
        · cases hn
        · rename_i q; rw [if_neg q]
          split at hn
          · cases hn
          · rename_i q; rw [if_neg q]
theorem Sm.leafPs {c c' : K} (h : Sm δ tl c c') : (Go.Proofs.Ytfjbmjplnmaclaa.leafP c').isSome = (Go.Proofs.Ytfjbmjplnmaclaa.leafP c).isSome := by
  cases hq : Go.Proofs.Ytfjbmjplnmaclaa.leafP c with
  | none => rw [(Sm.leafP hs h).2 hq]
  | some n => obtain ⟨n', e, _⟩ := (Sm.leafP hs h).1 n hq; rw [e]; rfl
variable {rec rec' : K → K × Option N} (hr : ∀ c c', Sm δ tl c c' → Side NS δ tl c (rec c) (rec' c'))
include hr
theorem qmq (c c' : K) (h : Sm δ tl c c') : Side NS δ tl c (qbp rec c) (qbp rec' c') := by
  intro x hx
  have hls := Sm.leafPs hs h
  cases hl : (leafP c).isSome with
  | true =>
    rw [hl] at hls
    rw [qbp, if_pos hl] at hx ⊢
    rw [qbp, if_pos hls]
    obtain ⟨n', e, q, hk⟩ := (Sm.leafP hs h).1 x hx
    obtain ⟨hb, hn, e1⟩ := h.there rfl hk
    exact .inl ⟨e1, n', e, q, hn⟩
  | false =>
    rw [hl] at hls
    have hl1 : ¬ (leafP c).isSome = true := by rw [hl]; decide
    have hl2 : ¬ (leafP c').isSome = true := by rw [hls]; decide
    by_cases hk : isK c [40] = true
    · have hk' := (h.isT hk).1
      rw [qbp, if_neg hl1, if_pos hk] at hx ⊢
      rw [qbp, if_neg hl2, if_pos hk']
      cases he : (qi c).2 with
      | false => rw [he] at hx; cases hx
      | true =>
        rw [he, if_pos rfl] at hx
        rw [if_pos rfl]
        rcases h.enter he with ⟨e1, e2, e3⟩ | ⟨e1, e2⟩
        · rw [e1, if_pos rfl]
          obtain ⟨_, g1, g2⟩ := e2.there rfl (by rw [qc1 he]; exact qcv hk)
          cases hy : (rec (q7 (qi c).1)).2 with
          | none => rw [hy] at hx; cases hx
          | some y =>
            rw [hy, Option.isSome_some, if_pos rfl] at hx
            rw [Option.isSome_some, if_pos rfl]
            rcases hr _ _ g1 y hy with ⟨q1, y', q2, q3, q4⟩ | ⟨q1, q2⟩
            · rw [q2, Option.isSome_some, if_pos rfl]
              cases hw : (qq (rec (q7 (qi c).1)).1 [41]).2 with
              | false => rw [hw] at hx; cases hx
              | true =>
                obtain ⟨w1, w2, w3⟩ := q4.want hw
                obtain ⟨l1, l2⟩ := w2.leave (m := c.nest) (by omega) (by have := h.n; omega)
                rw [hw, if_pos rfl] at hx
                cases hx
                rw [w1, if_pos rfl, if_pos rfl]
                exact .inl ⟨l2, y', rfl, q3, l1⟩
            · rw [q1]
              exact .inr ⟨rfl, q2⟩
        · rw [e1]; exact .inr ⟨rfl, e2⟩
    · rw [qbp, if_neg hl1, if_neg hk] at hx; cases hx
theorem Sm.begP {c c' : K} (h : Sm δ tl c c') : Go.Proofs.Ytfjbmjplnmaclaa.begP c' = Go.Proofs.Ytfjbmjplnmaclaa.begP c := by
  unfold Go.Proofs.Ytfjbmjplnmaclaa.begP
  rw [h.is hs (by decide) (by decide) (by decide), Sm.leafPs hs h]
theorem qq2 : ∀ (f f' : Nat), f ≤ f' → ∀ (c c' : K) (a a' : List N), Sm δ tl c c' → a.map qbg = a'.map qbg → Side (fun x y => x.map qbg = y.map qbg) δ tl c (qfg rec f c a) (qfg rec' f' c' a')
  | 0, f', _, c, c', a, a', h, ha => fun x hx => by cases hx
  | f + 1, 0, hf, _, _, _, _, _, _ => by omega
  | f + 1, f' + 1, hf, c, c', a, a', h, ha => fun x hx => by
    have hb := Sm.begP hs hr h
    cases hc : begP c with
    | false =>
      rw [qfg, hc, if_neg noB] at hx ⊢
      rw [qfg, hb, hc, if_neg noB]
      cases hx
      exact .inl ⟨rfl, _, rfl, ha, h⟩
    | true =>
      rw [qfg, hc, if_pos rfl] at hx ⊢
      rw [qfg, hb, hc, if_pos rfl]
      cases hy : (qbp rec c).2 with
      | none => rw [hy] at hx; cases hx
      | some y =>
        rw [hy, Option.isSome_some, if_pos rfl] at hx
        rw [Option.isSome_some, if_pos rfl]
        rcases qmq hs hr c c' h y hy with ⟨q1, y', q2, q3, q4⟩ | ⟨q1, q2⟩
        · rw [q2, Option.isSome_some, if_pos rfl]
          have hl : (a ++ [y]).map qbg = (a' ++ [y']).map qbg := by simp only [List.map_append, ha, List.map_cons, show qbg y = qbg y' from q3]
          rcases qq2 f f' (by omega) _ _ (a ++ [y]) (a' ++ [y']) q4 hl x hx with ⟨r1, r2⟩ | r
          · exact .inl ⟨by simp only [Option.getD_some]; rw [r1, q1], r2⟩
          · exact .inr r
        · rw [q1]; exact .inr ⟨rfl, q2⟩
end
theorem qq9 {δ : Int} {tl : List T} (hs : Stop tl) : ∀ (f f' : Nat), f ≤ f' → ∀ (c c' : K), Sm δ tl c c' → Side NS δ tl c (qcf f c) (qcf f' c')
  | 0, f', _, c, c', h => fun x hx => by cases hx
  | f + 1, 0, hf, _, _, _ => by omega
  | f + 1, f' + 1, hf, c, c', h => fun x hx => by
    have hr : ∀ d d', Sm δ tl d d' → Side NS δ tl d (qcf f d) (qcf f' d') := fun d d' h => qq9 hs f f' (by omega) d d' h
    rw [qcf] at hx ⊢
    rw [qcf]
    cases he : (qi c).2 with
    | false => rw [he] at hx; cases hx
    | true =>
      rw [he, if_pos rfl] at hx
      rw [if_pos rfl]
      rcases h.enter he with ⟨e1, e2, e3⟩ | ⟨e1, e2⟩
      · rw [e1, if_pos rfl]
        have hn := h.n
        by_cases h2 : (qw (qi c).1).kind = 2
        · rw [if_pos h2] at hx ⊢
          rw [if_pos ((e2.kind hs (by decide) (by decide)).2 h2)]
          obtain ⟨hb, g1, g2⟩ := e2.there h2 (by decide)
          have hle := e2.le
          have hk := qq2 hs hr (rest (qi c).1 + 1) (rest (qi c').1 + 1) (by omega) _ _ [] [] g1 rfl
          cases hy : (qfg (qcf f) (rest (qi c).1 + 1) (q7 (qi c).1) []).2 with
          | none => rw [hy] at hx; cases hx
          | some y =>
            rw [hy] at hx
            simp only [Option.map_some, Option.some.injEq] at hx
            subst hx
            rcases hk y hy with ⟨q1, y', q2, q3, q4⟩ | ⟨q1, q2⟩
            · obtain ⟨l1, l2⟩ := q4.leave (m := c.nest) (by omega) (by omega)
              rw [q2]
              exact .inl ⟨l2, _, rfl, NS.mk (qdj hb).symm rfl (qda hb).symm q3, l1⟩
            · rw [q1]; exact .inr ⟨rfl, q2.mon (qbh _)⟩
        · rw [if_neg h2] at hx ⊢
          rw [if_neg (fun q => h2 ((e2.kind hs (by decide) (by decide)).1 q))]
          cases hy : (qbp (qcf f) (qi c).1).2 with
          | none => rw [hy] at hx; cases hx
          | some y =>
            rw [hy] at hx
            cases hx
            rcases qmq hs hr _ _ e2 _ hy with ⟨q1, y', q2, q3, q4⟩ | ⟨q1, q2⟩
            · obtain ⟨l1, l2⟩ := q4.leave (m := c.nest) (by omega) (by omega)
              rw [q2]
              exact .inl ⟨l2, _, rfl, q3, l1⟩
            · rw [q1]; exact .inr ⟨rfl, q2.mon (qbh _)⟩
      · rw [e1]; exact .inr ⟨rfl, e2⟩

theorem NS.kids {x y : N} (h : NS x y) : [x].map qbg = [y].map qbg := by simp only [List.map_cons, List.map_nil, show qbg x = qbg y from h]
theorem NS.snoc {a a' : List N} {y y' : N} (ha : a.map qbg = a'.map qbg) (h : NS y y') : (a ++ [y]).map qbg = (a' ++ [y']).map qbg := by simp only [List.map_append, ha, List.map_cons, show qbg y = qbg y' from h]
section
variable {δ : Int} {tl : List T} (hs : Stop tl)
include hs
theorem Sm.leafE {c c' : K} (h : Sm δ tl c c') : (∀ n, Go.Proofs.Ytfjbmjplnmaclaa.leafE c = some n → ∃ n', Go.Proofs.Ytfjbmjplnmaclaa.leafE c' = some n' ∧ NS n n' ∧ (qw c).kind ≠ 0) ∧ (Go.Proofs.Ytfjbmjplnmaclaa.leafE c = none → Go.Proofs.Ytfjbmjplnmaclaa.leafE c' = none) := by
  have h1 := h.kind hs (k := 1) (by decide) (by decide)
  have h2 := h.kind hs (k := 2) (by decide) (by decide)
  have h3 := h.kind hs (k := 3) (by decide) (by decide)
  have hb : (qw c).kind ≠ 0 → bare (qw c') = bare (qw c) := fun q => (h.there rfl q).1
  refine ⟨fun n hn => ?_, fun hn => ?_⟩
  · have hk := qjp (c := c) (by rw [hn]; rfl)
    have hb := hb hk
    unfold Go.Proofs.Ytfjbmjplnmaclaa.leafE at hn ⊢
    simp only [h1, h2, h3]
    split at hn
    · rename_i q; rw [if_pos q]; cases hn; exact ⟨_, rfl, NS.mk (qdj hb).symm rfl (qda hb).symm rfl, hk⟩
    · rename_i q; rw [if_neg q]
      split at hn
      · rename_i q; rw [if_pos q]; cases hn; exact ⟨_, rfl, NS.mk (qdj hb).symm rfl (qda hb).symm rfl, hk⟩
      · rename_i q; rw [if_neg q]
        split at hn
        · rename_i q; rw [if_pos q]; cases hn; exact ⟨_, rfl, NS.mk (qdj hb).symm (q0r hb).symm rfl rfl, hk⟩
        · cases hn
  · unfold Go.Proofs.Ytfjbmjplnmaclaa.leafE at hn ⊢
    simp only [h1, h2, h3]
    split at hn
    · cases hn
    · rename_i q; rw [if_neg q]
      split at hn
      · cases hn
      · rename_i q; rw [if_neg q]
        split at hn
        · cases hn
        · rename_i q; rw [if_neg q]
theorem Sm.leafEs {c c' : K} (h : Sm δ tl c c') : (Go.Proofs.Ytfjbmjplnmaclaa.leafE c').isSome = (Go.Proofs.Ytfjbmjplnmaclaa.leafE c).isSome := by
  cases hq : Go.Proofs.Ytfjbmjplnmaclaa.leafE c with
  | none => rw [(Sm.leafE hs h).2 hq]
  | some n => obtain ⟨n', e, _⟩ := (Sm.leafE hs h).1 n hq; rw [e]; rfl
variable {rec rec' : K → K × Option N} (hr : ∀ c c', Sm δ tl c c' → Side NS δ tl c (rec c) (rec' c'))
include hr
theorem qm0 (c c' : K) (h : Sm δ tl c c') : Side NS δ tl c (qbd rec c) (qbd rec' c') := by
  intro x hx
  have hls := Sm.leafEs hs h
  cases hl : (leafE c).isSome with
  | true =>
    rw [hl] at hls
    rw [qbd, if_pos hl] at hx ⊢
    rw [qbd, if_pos hls]
    obtain ⟨n', e, q, hk⟩ := (Sm.leafE hs h).1 x hx
    obtain ⟨hb, hn, e1⟩ := h.there rfl hk
    exact .inl ⟨e1, n', e, q, hn⟩
  | false =>
    rw [hl] at hls
    have hl1 : ¬ (leafE c).isSome = true := by rw [hl]; decide
    have hl2 : ¬ (leafE c').isSome = true := by rw [hls]; decide
    by_cases hk : isK c [40] = true
    · have hk' := (h.isT hk).1
      rw [qbd, if_neg hl1, if_pos hk] at hx ⊢
      rw [qbd, if_neg hl2, if_pos hk']
      cases he : (qi c).2 with
      | false => rw [he] at hx; cases hx
      | true =>
        rw [he, if_pos rfl] at hx
        rw [if_pos rfl]
        rcases h.enter he with ⟨e1, e2, e3⟩ | ⟨e1, e2⟩
        · rw [e1, if_pos rfl]
          obtain ⟨_, g1, g2⟩ := e2.there rfl (by rw [qc1 he]; exact qcv hk)
          cases hy : (rec (q7 (qi c).1)).2 with
          | none => rw [hy] at hx; cases hx
          | some y =>
            rw [hy, Option.isSome_some, if_pos rfl] at hx
            rw [Option.isSome_some, if_pos rfl]
            rcases hr _ _ g1 y hy with ⟨q1, y', q2, q3, q4⟩ | ⟨q1, q2⟩
            · rw [q2, Option.isSome_some, if_pos rfl]
              cases hw : (qq (rec (q7 (qi c).1)).1 [41]).2 with
              | false => rw [hw] at hx; cases hx
              | true =>
                obtain ⟨w1, w2, w3⟩ := q4.want hw
                obtain ⟨l1, l2⟩ := w2.leave (m := c.nest) (by omega) (by have := h.n; omega)
                rw [hw, if_pos rfl] at hx
                cases hx
                rw [w1, if_pos rfl, if_pos rfl]
                exact .inl ⟨l2, y', rfl, q3, l1⟩
            · rw [q1]
              exact .inr ⟨rfl, q2⟩
        · rw [e1]; exact .inr ⟨rfl, e2⟩
    · rw [qbd, if_neg hl1, if_neg hk] at hx; cases hx
theorem Sm.begE {c c' : K} (h : Sm δ tl c c') : Go.Proofs.Ytfjbmjplnmaclaa.begE c' = Go.Proofs.Ytfjbmjplnmaclaa.begE c := by
  unfold Go.Proofs.Ytfjbmjplnmaclaa.begE
  rw [h.is hs (by decide) (by decide) (by decide), Sm.leafEs hs h]
/-- Readings that give a tree and whether it is one. -/
abbrev qli (δ : Int) (tl : List T) (c : K) (p p' : R3) : Prop := Side NS δ tl c (toO p) (toO p')
theorem qch {c : K} {p p' : R3} (h : p.2.2 = true → (p.1.nest = c.nest ∧ p'.2.2 = true ∧ NS p.2.1 p'.2.1 ∧ Sm δ tl p.1 p'.1) ∨ (p'.2.2 = false ∧ Lim δ p'.1)) : qli δ tl c p p' := by
  intro x hx
  unfold toO at hx ⊢
  simp only at hx ⊢
  cases hp : p.2.2 with
  | false => rw [hp] at hx; cases hx
  | true =>
    rw [hp, if_pos rfl] at hx
    cases hx
    rcases h hp with ⟨q1, q2, q3, q4⟩ | ⟨q1, q2⟩
    · rw [q2]; exact .inl ⟨q1, _, rfl, q3, q4⟩
    · rw [q1]; exact .inr ⟨rfl, q2⟩
theorem qnm {c : K} {p p' : R3} (h : qli δ tl c p p') (hp : p.2.2 = true) : (p.1.nest = c.nest ∧ p'.2.2 = true ∧ NS p.2.1 p'.2.1 ∧ Sm δ tl p.1 p'.1) ∨ (p'.2.2 = false ∧ Lim δ p'.1) := by
  have hx : (toO p).2 = some p.2.1 := by unfold toO; rw [hp]; rfl
  rcases h _ hx with ⟨q1, x', q2, q3, q4⟩ | ⟨q1, q2⟩
  · unfold toO at q2
    cases hp' : p'.2.2 with
    | false => simp only [hp', if_neg noB] at q2; cases q2
    | true =>
      simp only [hp', if_true, Option.some.injEq] at q2
      subst q2
      exact .inl ⟨q1, rfl, q3, q4⟩
  · unfold toO at q1
    cases hp' : p'.2.2 with
    | false => exact .inr ⟨rfl, q2⟩
    | true => simp only [hp', if_true] at q1; cases q1
theorem qob {c : K} {p p' : K × Option N} (h : Side NS δ tl c p p') : qli δ tl c (ofO p) (ofO p') := by
  refine qch hs hr fun hp => ?_
  cases hy : p.2 with
  | none => simp only [ofO, hy] at hp; cases hp
  | some y =>
    rcases h y hy with ⟨q1, y', q2, q3, q4⟩ | ⟨q1, q2⟩
    · exact .inl ⟨q1, by simp only [ofO, q2]; rfl, by simp only [ofO, hy, q2]; exact q3, q4⟩
    · exact .inr ⟨by simp only [ofO, q1]; rfl, q2⟩
theorem qms : ∀ (f f' : Nat), f ≤ f' → ∀ (c c' : K) (n n' : N), Sm δ tl c c' → NS n n' → qli δ tl c (qet rec f c n) (qet rec' f' c' n')
  | 0, f', _, c, c', a, a', h, ha => fun x hx => by cases hx
  | f + 1, 0, hf, _, _, _, _, _, _ => by omega
  | f + 1, f' + 1, hf, c, c', n, n', h, ha => by
    have hb := Sm.begE hs hr h
    rw [qet, qet, hb]
    cases hc : begE c with
    | false =>
      rw [if_neg noB, if_neg noB]
      exact qch hs hr fun _ => .inl ⟨rfl, rfl, ha, h⟩
    | true =>
      rw [if_pos rfl, if_pos rfl]
      cases hy : (qbd rec c).2 with
      | none => rw [Option.isSome_none, if_neg noB]; exact qch hs hr fun q => by cases q
      | some y =>
        rw [Option.isSome_some, if_pos rfl]
        rcases qm0 hs hr c c' h y hy with ⟨q1, y', q2, q3, q4⟩ | ⟨q1, q2⟩
        · rw [q2, Option.isSome_some, if_pos rfl]
          have := qms f f' (by omega) _ _ (appN n y) (appN n' y') q4 (NS.mk (congrArg N.pos (show n = n' from ha)) rfl rfl (by simp only [List.map_cons, show qbg n = qbg n' from ha, show qbg y = qbg y' from q3]))
          intro x hx
          rcases this x hx with ⟨r1, r2⟩ | r
          · exact .inl ⟨r1.trans q1, r2⟩
          · exact .inr r
        · rw [q1]; exact qch hs hr fun _ => .inr ⟨rfl, q2⟩
theorem qw1 (c c' : K) (h : Sm δ tl c c') : qli δ tl c (qf5 rec c) (qf5 rec' c') := by
  rw [qf5, qf5]
  cases hy : (qbd rec c).2 with
  | none => rw [Option.isSome_none, if_neg noB]; exact qch hs hr fun q => by cases q
  | some y =>
    rw [Option.isSome_some, if_pos rfl]
    rcases qm0 hs hr c c' h y hy with ⟨q1, y', q2, q3, q4⟩ | ⟨q1, q2⟩
    · rw [q2, Option.isSome_some, if_pos rfl]
      have hle := q4.le
      intro x hx
      rcases qms hs hr (rest (qbd rec c).1 + 1) (rest (qbd rec' c').1 + 1) (by omega) _ _ y y' q4 q3 x hx with ⟨r1, r2⟩ | r
      · exact .inl ⟨r1.trans q1, r2⟩
      · exact .inr r
    · rw [q1]; exact qch hs hr fun _ => .inr ⟨rfl, q2⟩
theorem qjl (w : List UInt8) : ∀ (f f' : Nat), f ≤ f' → ∀ (c c' : K), Sm δ tl c c' → qli δ tl c (qcg rec w f c) (qcg rec' w f' c')
  | 0, f', _, c, c', h => fun x hx => by cases hx
  | f + 1, 0, hf, _, _, _ => by omega
  | f + 1, f' + 1, hf, c, c', h => by
    rw [qcg, qcg]
    by_cases h1 : (qw c).kind = 1
    · obtain ⟨hb, hn, e⟩ := h.there h1 (by decide)
      rw [if_pos h1, if_pos ((h.kind hs (by decide) (by decide)).2 h1)]
      refine qch hs hr fun hp => ?_
      rcases qnm hs hr (qjl w f f' (by omega) _ _ hn) hp with ⟨q1, q2, q3, q4⟩ | q
      · exact .inl ⟨q1.trans e, q2, NS.mk (qdj hb).symm rfl (qda hb).symm q3.kids, q4⟩
      · exact .inr q
    · rw [if_neg h1, if_neg (fun q => h1 ((h.kind hs (by decide) (by decide)).1 q))]
      cases hw : (qq c w).2 with
      | false => rw [if_neg noB]; exact qch hs hr fun q => by cases q
      | true =>
        obtain ⟨w1, w2, w3⟩ := h.want hw
        rw [w1, if_pos rfl, if_pos rfl]
        intro x hx
        rcases qob hs hr (hr _ _ w2) x hx with ⟨r1, r2⟩ | r
        · exact .inl ⟨r1.trans w3, r2⟩
        · exact .inr r
/-- A reading's place does not matter but for its nest. -/
theorem Side.at {α : Type} {R : α → α → Prop} {c d : K} {p p' : K × Option α} (h : Side R δ tl c p p') (e : c.nest = d.nest) : Side R δ tl d p p' := fun x hx => (h x hx).imp (fun q => ⟨q.1.trans e, q.2⟩) id
theorem Side.map {α β : Type} {R : α → α → Prop} {S : β → β → Prop} {c : K} {p p' : K × Option α} {g g' : α → β} (h : Side R δ tl c p p') (hg : ∀ x x', R x x' → S (g x) (g' x')) : Side S δ tl c (p.1, p.2.map g) (p'.1, p'.2.map g') := by
  intro x hx
  cases hy : p.2 with
  | none => simp only [hy] at hx; cases hx
  | some y =>
    simp only [hy, Option.map_some, Option.some.injEq] at hx
    subst hx
    rcases h y hy with ⟨q1, y', q2, q3, q4⟩ | ⟨q1, q2⟩
    · exact .inl ⟨q1, g' y', by simp only [q2]; rfl, hg _ _ q3, q4⟩
    · exact .inr ⟨by simp only [q1]; rfl, q2⟩
theorem qm7 (c c' : K) (h : Sm δ tl c c') : Side NS δ tl c (qb2 rec c) (qb2 rec' c') := by
  rw [qb2, qb2]
  cases hk : (kindK c 1).2 with
  | false => rw [if_neg noB]; intro x hx; cases hx
  | true =>
    obtain ⟨k1, k2, k3, k4⟩ := h.kindK (by decide) hk
    obtain ⟨t1, t2, t3⟩ := k2.take hs (x := [58, 58]) (by decide) (by decide) (by decide)
    rw [k1, t1, if_pos rfl, if_pos rfl]
    cases ht : (qs (kindK c 1).1 [58, 58]).2 with
    | true =>
      rw [if_pos rfl, if_pos rfl]
      have hle := t2.le
      exact Side.map hs hr (Side.at hs hr (qut hs _ _ (by omega) _ _ t2) (t3.trans k3)) fun x x' q => NS.mk (qdj k4).symm rfl (qda k4).symm (NS.kids q)
    | false =>
      rw [if_neg noB, if_neg noB]
      have hle := k2.le
      exact Side.map hs hr (Side.at hs hr (qjl hs hr [61] _ _ (by omega) _ _ k2) k3) fun x x' q => NS.mk (qdj k4).symm rfl (qda k4).symm (NS.kids q)
end

theorem qjc {c : K} (hn : remT c = []) (x : List UInt8) : isK c x = false := by
  cases he : decide (c.err = 0) with
  | true => unfold isK; rw [qfm hn (by simpa using he)]; simp [qf0]
  | false => exact qsk (by simpa using he)
theorem qtg {c : K} (hn : remT c = []) (x : List UInt8) : (qq c x).2 = false := by
  unfold qq; rw [if_neg (by rw [qjc hn]; exact noB)]
theorem q0h {c : K} (hn : remT c = []) {k : Int} (h0 : k ≠ 0) : (kindK c k).2 = false := by
  cases hq : (kindK c k).2 with
  | false => rfl
  | true =>
    have := qh4 hq
    rw [qfm hn this.1] at this; exact absurd this.2.symm h0
def qbsq (δ : Int) (tl : List T) (c : K) (p p' : RL) : Prop := p.2.2 = true → (p.1.nest = c.nest ∧ p'.2.2 = true ∧ p.2.1.map qbg = p'.2.1.map qbg ∧ Sm δ tl p.1 p'.1) ∨ (p'.2.2 = false ∧ Lim δ p'.1)
section
variable {δ : Int} {tl : List T} (hs : Stop tl)
include hs
theorem qk9 {rd rd' : K → R3} (hd : ∀ c c', Sm δ tl c c' → qli δ tl c (rd c) (rd' c')) (hend : ∀ c, remT c = [] → (rd c).2.2 = false) : ∀ (f f' : Nat), f ≤ f' → ∀ (c c' : K) (a a' : List N), Sm δ tl c c' → a.map qbg = a'.map qbg → qbsq δ tl c (qb5 rd f c a) (qb5 rd' f' c' a')
  | 0, f', _, c, c', a, a', h, ha => fun hp => by cases hp
  | f + 1, 0, hf, _, _, _, _, _, _ => by omega
  | f + 1, f' + 1, hf, c, c', a, a', h, ha => fun hp => by
    rw [qb5] at hp ⊢
    rw [qb5]
    cases hy : (rd c).2.2 with
    | false => rw [hy, if_neg noB] at hp; cases hp
    | true =>
      rw [hy, if_pos rfl] at hp
      rw [if_pos rfl]
      rcases qnm (rec := fun c => (c, none)) (rec' := fun c => (c, none)) hs (fun c c' _ x hx => by cases hx) (hd _ _ h) hy with ⟨q1, q2, q3, q4⟩ | ⟨q1, q2⟩
      · rw [q2, if_pos rfl]
        have hl := NS.snoc ha q3
        by_cases hn : remT (rd c).1 = []
        · rw [qf1 (qjc hn _)] at hp
          simp only [Bool.false_and, if_neg noB, qtg hn] at hp
          cases hp
        · have h1 := fun x => Sm.isN (rec := fun c => (c, none)) (rec' := fun c => (c, none)) hs (fun c c' _ x hx => by cases hx) q4 hn x
          cases ht : isK (rd c).1 [59] with
          | false =>
            rw [qf1 ht] at hp ⊢
            rw [qf1 ((h1 _).trans ht)]
            simp only [Bool.false_and, if_neg noB] at hp ⊢
            obtain ⟨w1, w2, w3⟩ := q4.want hp
            exact .inl ⟨w3.trans q1, w1, hl, w2⟩
          | true =>
            obtain ⟨g1, g2, g3⟩ := q4.isT ht
            rw [qiq ht] at hp ⊢
            rw [qiq g1]
            simp only [Bool.true_and] at hp ⊢
            by_cases hn2 : remT (q7 (rd c).1) = []
            · exfalso
              rw [qjc hn2] at hp
              simp only [Bool.not_false, if_true] at hp
              cases f with
              | zero => cases hp
              | succ f => rw [qb5, hend _ hn2, if_neg noB] at hp; cases hp
            · rw [Sm.isN (rec := fun c => (c, none)) (rec' := fun c => (c, none)) hs (fun c c' _ x hx => by cases hx) g2 hn2 [125]]
              cases hk : isK (q7 (rd c).1) [125] with
              | true =>
                rw [hk] at hp
                simp only [Bool.not_true, if_neg noB] at hp ⊢
                obtain ⟨w1, w2, w3⟩ := g2.want hp
                exact .inl ⟨by rw [w3, g3, q1], w1, hl, w2⟩
              | false =>
                rw [hk] at hp
                simp only [Bool.not_false, if_true] at hp ⊢
                rcases qk9 hd hend f f' (by omega) _ _ _ _ g2 hl hp with ⟨r1, r2⟩ | r
                · exact .inl ⟨by rw [r1, g3, q1], r2⟩
                · exact .inr r
      · rw [q1, if_neg noB]; exact .inr ⟨rfl, q2⟩
theorem qmu {rd rd' : K → R3} (hd : ∀ c c', Sm δ tl c c' → qli δ tl c (rd c) (rd' c')) (hend : ∀ c, remT c = [] → (rd c).2.2 = false) (c c' : K) (h : Sm δ tl c c') : qbsq δ tl c (qbk rd c) (qbk rd' c') := by
  intro hp
  rw [qbk] at hp ⊢
  rw [qbk]
  cases hw : (qq c [123]).2 with
  | false => rw [hw, if_neg noB] at hp; cases hp
  | true =>
    obtain ⟨w1, w2, w3⟩ := h.want hw
    rw [hw, if_pos rfl] at hp
    rw [w1, if_pos rfl, if_pos rfl]
    have hle := w2.le
    rcases qk9 hs hd hend (rest (qq c [123]).1 + 1) (rest (qq c' [123]).1 + 1) (by omega) _ _ [] [] w2 rfl hp with ⟨r1, r2⟩ | r
    · exact .inl ⟨r1.trans w3, r2⟩
    · exact .inr r
variable {rec rec' : K → K × Option N} (hr : ∀ c c', Sm δ tl c c' → Side NS δ tl c (rec c) (rec' c'))
include hr
theorem q4e (d d' : K) (p p' : Int) (hpp : p = p') (l l' : List N) (w w' : K × Bool) (hl : l.map qbg = l'.map qbg) (hw : w.2 = true → w'.2 = true ∧ Sm δ tl w.1 w'.1 ∧ w.1.nest = d.nest) : qli δ tl d (letC rec p l w) (letC rec' p' l' w') := by
  rw [letC, letC]
  cases h : w.2 with
  | false => rw [if_neg noB]; exact qch hs hr fun q => by cases q
  | true =>
    obtain ⟨w1, w2, w3⟩ := hw h
    rw [w1, if_pos rfl, if_pos rfl]
    refine qch hs hr fun hp => ?_
    rcases qnm hs hr (qob hs hr (hr _ _ w2)) hp with ⟨q1, q2, q3, q4⟩ | q
    · exact .inl ⟨q1.trans w3, q2, NS.mk hpp rfl rfl (NS.snoc hl q3), q4⟩
    · exact .inr q
theorem qxs (p p' : Int) (hpp : p = p') (c c' : K) (h : Sm δ tl c c') : qli δ tl c (qg0 rec p c) (qg0 rec' p' c') := by
  have hb := qmu hs (rd := fun c => ofO (qb2 rec c)) (rd' := fun c => ofO (qb2 rec' c)) (fun c c' h => qob hs hr (qm7 hs hr c c' h)) (fun c hn => by
    show (qb2 rec c).2.isSome = false
    rw [qb2, q0h hn (by decide), if_neg noB]; rfl) c c' h
  rw [qg0, qg0, letB, letB]
  cases hp : (qbk (fun c => ofO (qb2 rec c)) c).2.2 with
  | false => rw [if_neg noB]; exact qch hs hr fun q => by cases q
  | true =>
    rw [if_pos rfl]
    rcases hb hp with ⟨q1, q2, q3, q4⟩ | ⟨q1, q2⟩
    · rw [q2, if_pos rfl]
      refine q4e hs hr _ c _ _ hpp _ _ _ _ q3 fun hw => ?_
      obtain ⟨w1, w2, w3⟩ := q4.want hw
      exact ⟨w1, w2, w3.trans q1⟩
    · rw [q1, if_neg noB]; exact qch hs hr fun _ => .inr ⟨rfl, q2⟩
theorem qx9 (c c' : K) (h : Sm δ tl c c') : qli δ tl c (qd8 rec c) (qd8 rec' c') := by
  have hle := h.le
  have hb := qq9 hs (rest c + 2) (rest c' + 2) (by omega) c c' h
  rw [qd8, qd8, altB, altB]
  cases hy : (qcf (rest c + 2) c).2 with
  | none => rw [Option.isSome_none, if_neg noB]; exact qch hs hr fun q => by cases q
  | some y =>
    rw [Option.isSome_some, if_pos rfl]
    rcases hb y hy with ⟨q1, y', q2, q3, q4⟩ | ⟨q1, q2⟩
    · rw [q2, Option.isSome_some, if_pos rfl, altC, altC]
      cases hw : (qq (qcf (rest c + 2) c).1 [45, 62]).2 with
      | false => rw [if_neg noB]; exact qch hs hr fun q => by cases q
      | true =>
        obtain ⟨w1, w2, w3⟩ := q4.want hw
        rw [w1, if_pos rfl, if_pos rfl]
        refine qch hs hr fun hp => ?_
        rcases qnm hs hr (qob hs hr (hr _ _ w2)) hp with ⟨r1, r2, r3, r4⟩ | q
        · exact .inl ⟨r1.trans (w3.trans q1), r2, NS.mk (congrArg N.pos (show y = y' from q3)) rfl rfl (by simp only [List.map_cons, List.map_nil, Option.getD_some]; rw [show qbg y = qbg y' from q3]; exact congrArg (fun z => [qbg y', z]) r3), r4⟩
        · exact .inr q
    · rw [q1, Option.isSome_none, if_neg noB]; exact qch hs hr fun _ => .inr ⟨rfl, q2⟩
theorem qbmm (c : K) (hn : remT c = []) : (qd8 rec c).2.2 = false := by
  have : (qcf (rest c + 2) c).2 = none := by
    rw [qcf]
    cases he : (qi c).2 with
    | false => rw [if_neg noB]
    | true =>
      have h0 : c.err = 0 := (qhm he).1
      have hp := qc1 he
      rw [qfm hn h0] at hp
      have hn2 : remT (qi c).1 = [] := by rw [(qhm he).2.2]; exact hn
      have hl : leafP (qi c).1 = none := by
        unfold leafP
        rw [hp, qjc hn2]
        simp
      rw [if_pos rfl, if_neg (by rw [hp]; exact (by decide : ¬ (0 : Int) = 2)), qbp, hl, qjc hn2, Option.isSome_none, if_neg noB, if_neg noB]
  rw [qd8, altB, this, Option.isSome_none, if_neg noB]
theorem qwf (p p' : Int) (hpp : p = p') (c c' : K) (h : Sm δ tl c c') : qli δ tl c (qe2 rec p c) (qe2 rec' p' c') := by
  rw [qe2, qe2]
  cases hy : (rec c).2 with
  | none => rw [Option.isSome_none, if_neg noB]; exact qch hs hr fun q => by cases q
  | some y =>
    rw [Option.isSome_some, if_pos rfl]
    rcases hr _ _ h y hy with ⟨q1, y', q2, q3, q4⟩ | ⟨q1, q2⟩
    · rw [q2, Option.isSome_some, if_pos rfl, qxv, qxv]
      cases hw : (qq (rec c).1 [111, 102]).2 with
      | false => rw [if_neg noB]; exact qch hs hr fun q => by cases q
      | true =>
        obtain ⟨w1, w2, w3⟩ := q4.want hw
        rw [w1, if_pos rfl, if_pos rfl, qxf, qxf]
        refine qch hs hr fun hp => ?_
        rcases qmu hs (fun c c' h => qx9 hs hr c c' h) (fun c hn => qbmm hs hr c hn) _ _ w2 hp with ⟨r1, r2, r3, r4⟩ | q
        · exact .inl ⟨by rw [r1, w3, q1], r2, NS.mk hpp rfl rfl (by rw [List.map_cons, List.map_cons, r3]; exact congrArg (· :: _) q3), r4⟩
        · exact .inr q
    · rw [q1, Option.isSome_none, if_neg noB]; exact qch hs hr fun _ => .inr ⟨rfl, q2⟩
theorem q7e (c c' : K) (h : Sm δ tl c c') (w : List UInt8) (hw : (ifsK c w).2 = true) : (ifsK c' w).2 = true ∧ Sm δ tl (ifsK c w).1 (ifsK c' w).1 ∧ (ifsK c w).1.nest = c.nest := by
  unfold ifsK at hw ⊢
  by_cases h0 : w = []
  · rw [if_pos h0, if_pos h0]; exact ⟨rfl, h, rfl⟩
  · rw [if_neg h0] at hw
    rw [if_neg h0, if_neg h0]
    exact h.want hw
theorem qpk (p p' : Int) (hpp : p = p') : ∀ (ws : List (List UInt8)) (c c' : K) (a a' : List N), Sm δ tl c c' → a.map qbg = a'.map qbg → qli δ tl c (qdt rec p ws c a) (qdt rec' p' ws c' a')
  | [], c, c', a, a', h, ha => by
    rw [qdt, qdt]
    exact qch hs hr fun _ => .inl ⟨rfl, rfl, NS.mk hpp rfl rfl ha, h⟩
  | w :: r, c, c', a, a', h, ha => by
    rw [qdt, qdt]
    cases hw : (ifsK c w).2 with
    | false => rw [if_neg noB]; exact qch hs hr fun q => by cases q
    | true =>
      obtain ⟨w1, w2, w3⟩ := q7e hs hr c c' h w hw
      rw [w1, if_pos rfl, if_pos rfl]
      cases hy : (rec (ifsK c w).1).2 with
      | none => rw [Option.isSome_none, if_neg noB]; exact qch hs hr fun q => by cases q
      | some y =>
        rw [Option.isSome_some, if_pos rfl]
        rcases hr _ _ w2 y hy with ⟨q1, y', q2, q3, q4⟩ | ⟨q1, q2⟩
        · rw [q2, Option.isSome_some, if_pos rfl]
          exact Side.at hs hr (qpk p p' hpp r _ _ (a ++ [y]) (a' ++ [y']) q4 (NS.snoc ha q3)) (q1.trans w3)
        · rw [q1, Option.isSome_none, if_neg noB]; exact qch hs hr fun _ => .inr ⟨rfl, q2⟩
theorem qup (c c' : K) (h : Sm δ tl c c') : qli δ tl c (qdn rec c) (qdn rec' c') := by
  rw [qdn, qdn]
  obtain ⟨t1, t2, t3⟩ := h.take hs (x := [92]) (by decide) (by decide) (by decide)
  rw [t1]
  cases ht : (qs c [92]).2 with
  | true =>
    rw [if_pos rfl, if_pos rfl]
    by_cases h1 : (qw (qs c [92]).1).kind = 1
    · rw [if_pos h1, if_pos ((t2.kind hs (by decide) (by decide)).2 h1)]
      have hle := t2.le
      exact Side.at hs hr (qjl hs hr _ _ _ (by omega) _ _ t2) t3
    · rw [if_neg h1]; exact qch hs hr fun q => by cases q
  | false =>
    rw [if_neg noB, if_neg noB]
    obtain ⟨u1, u2, u3⟩ := h.take hs (x := [108, 101, 116]) (by decide) (by decide) (by decide)
    rw [u1]
    cases hu : (qs c [108, 101, 116]).2 with
    | true => rw [if_pos rfl, if_pos rfl]; exact Side.at hs hr (qxs hs hr _ _ (h.tpos hu) _ _ u2) u3
    | false =>
      rw [if_neg noB, if_neg noB]
      obtain ⟨v1, v2, v3⟩ := h.take hs (x := [99, 97, 115, 101]) (by decide) (by decide) (by decide)
      rw [v1]
      cases hv : (qs c [99, 97, 115, 101]).2 with
      | true => rw [if_pos rfl, if_pos rfl]; exact Side.at hs hr (qwf hs hr _ _ (h.tpos hv) _ _ v2) v3
      | false =>
        rw [if_neg noB, if_neg noB]
        obtain ⟨w1, w2, w3⟩ := h.take hs (x := [105, 102]) (by decide) (by decide) (by decide)
        rw [w1]
        cases hw : (qs c [105, 102]).2 with
        | true => rw [if_pos rfl, if_pos rfl]; exact Side.at hs hr (qpk hs hr _ _ (h.tpos hw) ifsW _ _ [] [] w2 rfl) w3
        | false => rw [if_neg noB, if_neg noB]; exact qw1 hs hr c c' h
end
theorem qro {δ : Int} {tl : List T} (hs : Stop tl) : ∀ (f f' : Nat), f ≤ f' → ∀ (c c' : K), Sm δ tl c c' → Side NS δ tl c (qfc f c) (qfc f' c')
  | 0, f', _, c, c', h => fun x hx => by cases hx
  | f + 1, 0, hf, _, _, _ => by omega
  | f + 1, f' + 1, hf, c, c', h => fun x hx => by
    have hr : ∀ d d', Sm δ tl d d' → Side NS δ tl d (qfc f d) (qfc f' d') := fun d d' h => qro hs f f' (by omega) d d' h
    rw [qfc] at hx ⊢
    rw [qfc]
    cases he : (qi c).2 with
    | false => rw [he] at hx; cases hx
    | true =>
      rw [he, if_pos rfl] at hx
      rw [if_pos rfl]
      rcases h.enter he with ⟨e1, e2, e3⟩ | ⟨e1, e2⟩
      · rw [e1, if_pos rfl]
        have hn := h.n
        rcases qup hs hr _ _ e2 x hx with ⟨q1, y', q2, q3, q4⟩ | ⟨q1, q2⟩
        · have q1 : (qdn (qfc f) (qi c).1).1.nest = (qi c).1.nest := q1
          obtain ⟨l1, l2⟩ := q4.leave (m := c.nest) (by show (qdn (qfc f) (qi c).1).1.nest = _; omega) (by omega)
          exact .inl ⟨l2, y', q2, q3, l1⟩
        · exact .inr ⟨q1, q2.mon (qbh _)⟩
      · rw [e1]; exact .inr ⟨rfl, e2⟩
end Go.Proofs.Ytfjbmjplnmaclaa.EX
