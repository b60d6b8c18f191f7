/- Texts of this proof, joined. -/
import Derived.Test.YtmekebfgmjaenaaRbg
import Derived.Test.YtmekebfgmjaenaaRax

/- readings that go side by side: the same words but for Pos, another nest, something behind: types -/
namespace Go.Proofs.Ytmekebfgmjaenaa
open Go Go.RowKit Go.V
set_option linter.unusedVariables false
set_option linter.unusedSimpArgs false

/-- A word without its place. -/
def bare (t : T) : T := ⟨t.kind, 0, t.num, t.text⟩
def remT (c : K) : List T := c.l.drop c.at'
/-- What stands behind the words: nothing, or what nobody takes. -/
def Stop (tl : List T) : Prop := tl = [] ∨ ∃ t, tl = [t] ∧ t.kind = 5 ∧ (t.text = [41] ∨ t.text = [125] ∨ t.text = [59])
structure Sm (δ : Int) (tl : List T) (c c' : K) : Prop where
  g : c.good
  g' : c'.good
  w : (remT c').map bare = (remT c ++ tl).map bare
  n : (c'.nest : Int) = c.nest + δ
  e : c.err = 0
  e' : c'.err = 0
def Lim (δ : Int) (c' : K) : Prop := c'.err = 2 ∧ 0 < δ
theorem Lim.mon {δ : Int} {c c' : K} (h : Lim δ c) (m : Mon c c') : Lim δ c' := ⟨by rw [m.2.2.1 (by rw [h.1]; decide), h.1], h.2⟩
/-- The same tree but for Pos. -/
def NS (a b : N) : Prop := qy a = qy b
theorem NS.mk {k p p' m m' : Int} {t t' : List UInt8} {l l' : List N} (hm : m = m') (ht : t = t') (hl : l.map qy = l'.map qy) : NS (.mk k p m t l) (.mk k p' m' t' l') := by
  subst hm ht
  unfold NS
  rw [qy, qy, qfq, qfq, hl]
section
variable {δ : Int} {tl : List T} {c c' : K}
theorem qlv (c : K) : (remT c).length = rest c := by simp [remT, rest]
theorem qfi {t : T} {r : List T} (h : remT c = t :: r) (he : c.err = 0) : qw c = t ∧ c.at' < c.l.length := by
  have hl : c.at' < c.l.length := by
    have := congrArg List.length h
    simp [remT] at this; omega
  have h1 : c.l.getD c.at' T0 = t := by
    have := qbbx hl
    unfold remT at h
    rw [h] at this
    exact (List.cons.inj this).1.symm
  rw [qqp he (by omega)]
  exact ⟨h1, hl⟩
theorem qf2 (h : remT c = []) (he : c.err = 0) : qw c = ⟨0, c.ep, 0, []⟩ := by
  refine qs1 he ?_
  have := congrArg List.length h
  simp [remT] at this; omega
theorem qna {t : T} {r : List T} (h : remT c = t :: r) (he : c.err = 0) : remT (qt c) = r ∧ (qt c).err = 0 ∧ (qt c).nest = c.nest := by
  obtain ⟨_, hl⟩ := qfi h he
  rw [qq5 he (by omega)]
  refine ⟨?_, he, rfl⟩
  have := qbbx hl
  unfold remT at h
  rw [h] at this
  exact (List.cons.inj this).2.symm
/-- The next words: the same but for Pos; or the one is at its end. -/
theorem Sm.peek (h : Sm δ tl c c') : (∃ t t' r r', remT c = t :: r ∧ remT c' = t' :: r' ∧ bare t = bare t' ∧ r'.map bare = (r ++ tl).map bare ∧ qw c = t ∧ qw c' = t') ∨ (remT c = [] ∧ (remT c').map bare = tl.map bare ∧ qw c = ⟨0, c.ep, 0, []⟩) := by
  cases hr : remT c with
  | nil => exact .inr ⟨rfl, by rw [h.w, hr]; rfl, qf2 hr h.e⟩
  | cons t r =>
    have hw := h.w
    rw [hr] at hw
    cases hr' : remT c' with
    | nil => rw [hr'] at hw; simp at hw
    | cons t' r' =>
      rw [hr'] at hw
      simp only [List.cons_append, List.map_cons, List.cons.injEq] at hw
      exact .inl ⟨t, t', r, r', rfl, rfl, hw.1.symm, hw.2, (qfi hr h.e).1, (qfi hr' h.e').1⟩
theorem qfr {t t' : T} (h : bare t = bare t') : t.kind = t'.kind := show (bare t).kind = (bare t').kind from congrArg T.kind h
theorem qv4 {t t' : T} (h : bare t = bare t') : t.num = t'.num := show (bare t).num = (bare t').num from congrArg T.num h
theorem qct {t t' : T} (h : bare t = bare t') : t.text = t'.text := show (bare t).text = (bare t').text from congrArg T.text h
theorem qh0 {t t' : T} (h : bare t = bare t') (x : List UInt8) : qe6 t x = qe6 t' x := by unfold qe6; rw [qfr h, qct h]
theorem qpp {t t' : T} (h : bare t = bare t') (x : List (List UInt8)) : qcx t x = qcx t' x := by unfold qcx; rw [qfr h, qct h]
theorem qmv (hs : Stop tl) (h : Sm δ tl c c') (hr : remT c = []) : (qw c').kind = 0 ∨ ((qw c').kind = 5 ∧ ((qw c').text = [41] ∨ (qw c').text = [125] ∨ (qw c').text = [59])) := by
  have hw := h.w
  rw [hr, List.nil_append] at hw
  rcases hs with rfl | ⟨t, rfl, h1, h2⟩
  · have : remT c' = [] := by simpa using hw
    rw [qf2 this h.e']; exact .inl rfl
  · cases hr' : remT c' with
    | nil => rw [hr'] at hw; simp at hw
    | cons t' r' =>
      rw [hr'] at hw
      simp only [List.map_cons, List.cons.injEq] at hw
      rw [(qfi hr' h.e').1, qfr hw.1, qct hw.1]
      exact .inr ⟨h1, h2⟩
theorem Sm.kind (hs : Stop tl) (h : Sm δ tl c c') {k : Int} (h0 : k ≠ 0) (h5 : k ≠ 5) : (qw c').kind = k ↔ (qw c).kind = k := by
  rcases h.peek with ⟨t, t', r, r', _, _, hb, _, p1, p2⟩ | ⟨hr, _, p1⟩
  · rw [p1, p2, qfr hb]
  · rw [p1]
    rcases qmv hs h hr with h1 | ⟨h1, _⟩ <;> rw [h1] <;> simp only <;> omega
/-- A word that is there is there in the other, too. -/
theorem Sm.there (h : Sm δ tl c c') {k : Int} (hk : (qw c).kind = k) (h0 : k ≠ 0) : bare (qw c') = bare (qw c) ∧ Sm δ tl (qt c) (qt c') ∧ (qt c).nest = c.nest := by
  rcases h.peek with ⟨t, t', r, r', q1, q2, hb, hw, p1, p2⟩ | ⟨hr, _, p1⟩
  · obtain ⟨a1, a2, a3⟩ := qna q1 h.e
    obtain ⟨b1, b2, b3⟩ := qna q2 h.e'
    refine ⟨by rw [p1, p2, hb], ⟨(qbm c).1 h.g, (qbm c').1 h.g', ?_, ?_, a2, b2⟩, a3⟩
    · rw [a1, b1, hw]
    · rw [a3, b3]; exact h.n
  · rw [p1] at hk; exact absurd hk.symm h0
theorem Sm.is (hs : Stop tl) (h : Sm δ tl c c') {x : List UInt8} (h1 : x ≠ [41]) (h2 : x ≠ [125]) (h3 : x ≠ [59]) : isK c' x = isK c x := by
  unfold isK
  rw [decide_eq_true h.e, decide_eq_true h.e', Bool.true_and, Bool.true_and]
  rcases h.peek with ⟨t, t', r, r', _, _, hb, _, p1, p2⟩ | ⟨hr, _, p1⟩
  · rw [p1, p2, qh0 hb]
  · have hf : qe6 (qw c) x = false := by rw [p1]; simp [qe6]
    rw [hf]
    unfold qe6
    rcases qmv hs h hr with q | ⟨_, q | q | q⟩
    · rw [q]; simp
    · rw [q, decide_eq_false (p := [41] = x) (fun e => h1 e.symm), Bool.and_false]
    · rw [q, decide_eq_false (p := [125] = x) (fun e => h2 e.symm), Bool.and_false]
    · rw [q, decide_eq_false (p := [59] = x) (fun e => h3 e.symm), Bool.and_false]
theorem Sm.isT (h : Sm δ tl c c') {x : List UInt8} (hx : isK c x = true) : isK c' x = true ∧ Sm δ tl (qt c) (qt c') ∧ (qt c).nest = c.nest := by
  obtain ⟨hb, hn, h1⟩ := h.there rfl (qcg hx)
  refine ⟨?_, hn, h1⟩
  unfold isK at hx ⊢
  rw [qh0 hb, decide_eq_true h.e']
  rw [decide_eq_true h.e] at hx
  exact hx
theorem Sm.take (hs : Stop tl) (h : Sm δ tl c c') {x : List UInt8} (h1 : x ≠ [41]) (h2 : x ≠ [125]) (h3 : x ≠ [59]) : (qp c' x).2 = (qp c x).2 ∧ Sm δ tl (qp c x).1 (qp c' x).1 ∧ (qp c x).1.nest = c.nest := by
  cases hx : isK c x with
  | true =>
    obtain ⟨k1, k2, k3⟩ := h.isT hx
    rw [qnn hx, qnn k1]; exact ⟨rfl, k2, k3⟩
  | false => rw [qfs hx, qfs (by rw [h.is hs h1 h2 h3]; exact hx)]; exact ⟨rfl, h, rfl⟩
theorem Sm.want (h : Sm δ tl c c') {x : List UInt8} (hx : (qq c x).2 = true) : (qq c' x).2 = true ∧ Sm δ tl (qq c x).1 (qq c' x).1 ∧ (qq c x).1.nest = c.nest := by
  have hi : isK c x = true := by
    cases hi : isK c x with
    | true => rfl
    | false => rw [qq, hi] at hx; cases hx
  obtain ⟨k1, k2, k3⟩ := h.isT hi
  rw [qg3 hi, qg3 k1]; exact ⟨rfl, k2, k3⟩
theorem Sm.enter (h : Sm δ tl c c') (hx : (qe c).2 = true) : ((qe c').2 = true ∧ Sm δ tl (qe c).1 (qe c').1 ∧ (qe c).1.nest = c.nest + 1) ∨ ((qe c').2 = false ∧ Lim δ (qe c').1) := by
  obtain ⟨_, e2, e3⟩ := qhw hx
  have hlt : c.nest < 200 := by
    by_cases hq : c.nest < 200
    · exact hq
    · rw [qe, if_pos h.e, if_neg hq] at hx; cases hx
  by_cases hq : c'.nest < 200
  · have he : qe c' = ({ c' with nest := c'.nest + 1 }, true) := by rw [qe, if_pos h.e', if_pos hq]
    refine .inl ⟨by rw [he], ⟨(qv c).1 h.g, (qv c').1 h.g', ?_, ?_, e2, by rw [he]; exact h.e'⟩, by rw [e3]⟩
    · rw [he, e3]; exact h.w
    · rw [he, e3]; have := h.n; simp only; omega
  · have he : qe c' = (qee c' 2, false) := by rw [qe, if_pos h.e', if_neg hq]
    refine .inr ⟨by rw [he], ?_, by have := h.n; omega⟩
    rw [he, q2s h.e' (by decide)]
theorem Sm.leave (h : Sm δ tl c c') {m : Nat} (hm : c.nest = m + 1) (hd : 0 ≤ (m : Int) + δ) : Sm δ tl (qbn c) (qbn c') ∧ (qbn c).nest = m := by
  have hn := h.n
  have h1 : qbn c = { c with nest := c.nest - 1 } := by rw [qbn, if_pos h.e, if_pos (by omega)]
  have h2 : qbn c' = { c' with nest := c'.nest - 1 } := by rw [qbn, if_pos h.e', if_pos (by omega)]
  refine ⟨⟨(qbc c).1 h.g, (qbc c').1 h.g', ?_, ?_, by rw [h1]; exact h.e, by rw [h2]; exact h.e'⟩, by rw [h1]; simp only; omega⟩
  · rw [h1, h2]; exact h.w
  · rw [h1, h2]; simp only; omega
theorem Sm.kindK (h : Sm δ tl c c') {k : Int} (h0 : k ≠ 0) (hx : (kindK c k).2 = true) : (Go.Proofs.Ytmekebfgmjaenaa.kindK c' k).2 = true ∧ Sm δ tl (Go.Proofs.Ytmekebfgmjaenaa.kindK c k).1 (Go.Proofs.Ytmekebfgmjaenaa.kindK c' k).1 ∧ (Go.Proofs.Ytmekebfgmjaenaa.kindK c k).1.nest = c.nest ∧ bare (qg9 c' k) = bare (qg9 c k) := by
  obtain ⟨e1, e2⟩ := qik hx
  obtain ⟨hb, hn, h1⟩ := h.there e2 h0
  have hk' : (qw c').kind = k := by rw [qfr hb]; exact e2
  rw [qmq e1 e2, qmq h.e' hk', qqh e1 e2, qqh h.e' hk']
  exact ⟨rfl, hn, h1, hb⟩
end
/-- Both read, side by side: the other reads the same, or goes too deep. -/
def Side {α : Type} (R : α → α → Prop) (δ : Int) (tl : List T) (c : K) (p p' : K × Option α) : Prop :=
  ∀ x, p.2 = some x → (p.1.nest = c.nest ∧ ∃ x', p'.2 = some x' ∧ R x x' ∧ Sm δ tl p.1 p'.1) ∨ (p'.2 = none ∧ Lim δ p'.1)
end Go.Proofs.Ytmekebfgmjaenaa

/- readings side by side: types -/
namespace Go.Proofs.Ytmekebfgmjaenaa
open Go Go.RowKit Go.V
set_option linter.unusedVariables false
set_option linter.unusedSimpArgs false
set_option linter.unusedSectionVars false

section
variable {δ : Int} {tl : List T} {rec rec' : K → K × Option N} (hs : Stop tl) (hr : ∀ c c', Sm δ tl c c' → Side NS δ tl c (rec c) (rec' c'))
include hs hr
theorem qhx (c c' : K) (h : Sm δ tl c c') : Side NS δ tl c (qbl rec c) (qbl rec' c') := by
  intro x hx
  by_cases h1 : (qw c).kind = 1
  · have h1' := (h.kind hs (by decide) (by decide)).2 h1
    obtain ⟨hb, hn, e⟩ := h.there h1 (by decide)
    rw [qbl, if_pos h1] at hx ⊢
    rw [qbl, if_pos h1']
    cases hx
    exact .inl ⟨e, _, rfl, NS.mk rfl (qct hb).symm rfl, hn⟩
  have h1' : ¬ (qw c').kind = 1 := fun q => h1 ((h.kind hs (by decide) (by decide)).1 q)
  by_cases h2 : (qw c).kind = 2
  · have h2' := (h.kind hs (by decide) (by decide)).2 h2
    obtain ⟨hb, hn, e⟩ := h.there h2 (by decide)
    rw [qbl, if_neg h1, if_pos h2] at hx ⊢
    rw [qbl, if_neg h1', if_pos h2']
    cases hx
    exact .inl ⟨e, _, rfl, NS.mk rfl (qct hb).symm rfl, hn⟩
  have h2' : ¬ (qw c').kind = 2 := fun q => h2 ((h.kind hs (by decide) (by decide)).1 q)
  by_cases hk : isK c [40] = true
  · have hk' := (h.isT hk).1
    rw [qbl, if_neg h1, if_neg h2, if_pos hk] at hx ⊢
    rw [qbl, if_neg h1', if_neg h2', if_pos hk']
    cases he : (qe c).2 with
    | false => rw [he] at hx; cases hx
    | true =>
      rw [he, if_pos rfl] at hx
      rw [if_pos rfl]
      rcases h.enter he with ⟨e1, e2, e3⟩ | ⟨e1, e2⟩
      · rw [e1, if_pos rfl]
        obtain ⟨_, g1, g2⟩ := e2.there rfl (by rw [qcp he]; exact qcg hk)
        cases hy : (rec (qt (qe c).1)).2 with
        | none => rw [hy] at hx; cases hx
        | some y =>
          rw [hy, Option.isSome_some, if_pos rfl] at hx
          rw [Option.isSome_some, if_pos rfl]
          rcases hr _ _ g1 y hy with ⟨q1, y', q2, q3, q4⟩ | ⟨q1, q2⟩
          · rw [q2, Option.isSome_some, if_pos rfl]
            cases hw : (qq (rec (qt (qe c).1)).1 [41]).2 with
            | false => rw [hw] at hx; cases hx
            | true =>
              obtain ⟨w1, w2, w3⟩ := q4.want hw
              obtain ⟨l1, l2⟩ := w2.leave (m := c.nest) (by omega) (by have := h.n; omega)
              rw [hw, if_pos rfl] at hx
              cases hx
              rw [w1]
              exact .inl ⟨l2, y', rfl, q3, l1⟩
          · rw [q1]
            exact .inr ⟨rfl, q2.mon (qbc _)⟩
      · rw [e1]; exact .inr ⟨rfl, e2⟩
  · rw [qbl, if_neg h1, if_neg h2, if_neg hk] at hx; cases hx
theorem Sm.begT {c c' : K} (h : Sm δ tl c c') : Go.Proofs.Ytmekebfgmjaenaa.begT c' = Go.Proofs.Ytmekebfgmjaenaa.begT c := by
  unfold Go.Proofs.Ytmekebfgmjaenaa.begT
  rw [h.is hs (by decide) (by decide) (by decide)]
  have h1 := h.kind hs (k := 1) (by decide) (by decide)
  have h2 := h.kind hs (k := 2) (by decide) (by decide)
  simp only [h1, h2]
theorem qkm : ∀ (f f' : Nat), f ≤ f' → ∀ (c c' : K) (a a' : List N), Sm δ tl c c' → a.map qy = a'.map qy → Side (fun x y => x.map qy = y.map qy) δ tl c (qcy rec f c a) (qcy rec' f' c' a')
  | 0, f', _, c, c', a, a', h, ha => fun x hx => by cases hx
  | f + 1, 0, hf, _, _, _, _, _, _ => by omega
  | f + 1, f' + 1, hf, c, c', a, a', h, ha => fun x hx => by
    have hb := Sm.begT hs hr h
    cases hc : begT c with
    | false =>
      rw [qcy, hc, if_neg (by decide)] at hx ⊢
      rw [qcy, hb, hc, if_neg (by decide)]
      cases hx
      exact .inl ⟨rfl, _, rfl, ha, h⟩
    | true =>
      rw [qcy, hc, if_pos rfl] at hx ⊢
      rw [qcy, hb, hc, if_pos rfl]
      cases hy : (qbl rec c).2 with
      | none => rw [hy] at hx; cases hx
      | some y =>
        rw [hy, Option.isSome_some, if_pos rfl] at hx
        rw [Option.isSome_some, if_pos rfl]
        rcases qhx hs hr c c' h y hy with ⟨q1, y', q2, q3, q4⟩ | ⟨q1, q2⟩
        · rw [q2, Option.isSome_some, if_pos rfl]
          have hl : (a ++ [y]).map qy = (a' ++ [y']).map qy := by simp only [List.map_append, ha, List.map_cons, show qy y = qy y' from q3]
          rcases qkm f f' (by omega) _ _ (a ++ [y]) (a' ++ [y']) q4 hl x hx with ⟨r1, r2⟩ | r
          · exact .inl ⟨by simp only [Option.getD_some]; rw [r1, q1], r2⟩
          · exact .inr r
        · rw [q1]; exact .inr ⟨rfl, q2⟩
theorem q4z {c : K} {p p' : K × Option (List N)} {k : Int} (d d' : K) (ht : (qw d).text = (qw d').text) (h : Side (fun x y => x.map qy = y.map qy) δ tl c p p') : Side NS δ tl c (p.1, p.2.map (qg7 d k)) (p'.1, p'.2.map (qg7 d' k)) := by
  intro x hx
  cases hy : p.2 with
  | none => simp only [hy] at hx; cases hx
  | some y =>
    simp only [hy, Option.map_some, Option.some.injEq] at hx
    subst hx
    rcases h y hy with ⟨q1, y', q2, q3, q4⟩ | ⟨q1, q2⟩
    · exact .inl ⟨q1, qg7 d' k y', by simp only [q2]; rfl, NS.mk rfl ht q3, q4⟩
    · exact .inr ⟨by simp only [q1]; rfl, q2⟩
theorem qui (c c' : K) (h : Sm δ tl c c') : Side NS δ tl c (qbu rec c) (qbu rec' c') := by
  unfold qbu
  by_cases h2 : (qw c).kind = 2
  · have h2' := (h.kind hs (by decide) (by decide)).2 h2
    obtain ⟨hb, hn, e⟩ := h.there h2 (by decide)
    rw [if_pos h2, if_pos h2']
    have hle : rest c ≤ rest c' := by
      have := congrArg List.length h.w
      simp only [List.length_map, List.length_append, qlv] at this
      omega
    have hk := qkm hs hr (rest c + 1) (rest c' + 1) (by omega) _ _ [] [] hn rfl
    intro x hx
    rcases q4z hs hr c c' (k := 2) (qct hb).symm hk x hx with ⟨r1, r2⟩ | r
    · exact .inl ⟨r1.trans e, r2⟩
    · exact .inr r
  · rw [if_neg h2, if_neg (fun q => h2 ((h.kind hs (by decide) (by decide)).1 q))]
    exact qhx hs hr c c' h
end
theorem Sm.le {δ : Int} {tl : List T} {c c' : K} (h : Sm δ tl c c') : rest c ≤ rest c' := by
  have := congrArg List.length h.w
  simp only [List.length_map, List.length_append, qlv] at this
  omega
theorem qot {δ : Int} {tl : List T} (hs : Stop tl) : ∀ (f f' : Nat), f ≤ f' → ∀ (c c' : K), Sm δ tl c c' → Side NS δ tl c (qbo f c) (qbo f' c')
  | 0, f', _, c, c', h => fun x hx => by cases hx
  | f + 1, 0, hf, _, _, _ => by omega
  | f + 1, f' + 1, hf, c, c', h => fun x hx => by
    have hr : ∀ d d', Sm δ tl d d' → Side NS δ tl d (qbo f d) (qbo f' d') := fun d d' h => qot hs f f' (by omega) d d' h
    rw [qbo] at hx ⊢
    rw [qbo]
    cases he : (qe c).2 with
    | false => rw [he] at hx; cases hx
    | true =>
      rw [he, if_pos rfl] at hx
      rw [if_pos rfl]
      rcases h.enter he with ⟨e1, e2, e3⟩ | ⟨e1, e2⟩
      · rw [e1, if_pos rfl]
        have hn := h.n
        cases hy : (qbu (qbo f) (qe c).1).2 with
        | none => rw [hy] at hx; cases hx
        | some y =>
          rw [hy, Option.isSome_some, if_pos rfl] at hx
          rw [Option.isSome_some, if_pos rfl]
          rcases qui hs hr _ _ e2 y hy with ⟨q1, y', q2, q3, q4⟩ | ⟨q1, q2⟩
          · rw [q2, Option.isSome_some, if_pos rfl]
            obtain ⟨t1, t2, t3⟩ := q4.take hs (x := [45, 62]) (by decide) (by decide) (by decide)
            rw [t1]
            cases ht : (qp (qbu (qbo f) (qe c).1).1 [45, 62]).2 with
            | false =>
              rw [ht, if_neg (by decide)] at hx
              rw [if_neg (by decide), if_neg (by decide)]
              cases hx
              obtain ⟨l1, l2⟩ := q4.leave (m := c.nest) (by omega) (by omega)
              exact .inl ⟨l2, y', rfl, q3, l1⟩
            | true =>
              rw [ht, if_pos rfl] at hx
              rw [if_pos rfl, if_pos rfl]
              cases hz : (qbo f (qp (qbu (qbo f) (qe c).1).1 [45, 62]).1).2 with
              | none => rw [hz] at hx; cases hx
              | some z =>
                rw [hz] at hx
                simp only [Option.map_some, Option.getD_some, Option.some.injEq] at hx
                subst hx
                rcases hr _ _ t2 z hz with ⟨u1, z', u2, u3, u4⟩ | ⟨u1, u2⟩
                · obtain ⟨l1, l2⟩ := u4.leave (m := c.nest) (by omega) (by omega)
                  rw [u2]
                  exact .inl ⟨l2, _, rfl, NS.mk rfl rfl (by simp only [List.map_cons, Option.getD_some, show qy y = qy y' from q3, show qy z = qy z' from u3]), l1⟩
                · rw [u1]
                  exact .inr ⟨rfl, u2.mon (qbc _)⟩
          · rw [q1]
            exact .inr ⟨rfl, q2.mon (qbc _)⟩
      · rw [e1]; exact .inr ⟨rfl, e2⟩

theorem noB : ¬ (false = true) := by decide
theorem qh3 (x : List UInt8) : ∀ (l l' : List T) (d : Int), l.map bare = l'.map bare → qd3 x l d = qd3 x l' d
  | [], [], d, _ => rfl
  | [], t :: r, d, h => by simp at h
  | t :: r, [], d, h => by simp at h
  | t :: r, t' :: r', d, h => by
    simp only [List.map_cons, List.cons.injEq] at h
    rw [qd3, qd3, qpp h.1, qpp h.1, qh0 h.1, qh0 h.1, qh3 x r r' (d + 1) h.2, qh3 x r r' (d - 1) h.2, qh3 x r r' d h.2]
theorem qib {tl : List T} (hs : Stop tl) (x : List UInt8) : ∀ (l : List T) (d : Int), qd3 x (l ++ tl) d = qd3 x l d
  | [], d => by
    rw [List.nil_append]
    rcases hs with rfl | ⟨t, rfl, h1, h2⟩
    · rfl
    · rcases h2 with h2 | h2 | h2 <;> simp [qd3, qcx, qe6, h1, h2]
  | t :: r, d => by
    rw [List.cons_append, qd3, qd3, qib hs x r (d + 1), qib hs x r (d - 1), qib hs x r d]
section
variable {δ : Int} {tl : List T} (hs : Stop tl)
include hs
theorem Sm.ahead {c c' : K} (h : Sm δ tl c c') (x : List UInt8) : qgh c' x = qgh c x := by
  rw [qgh, qgh, if_pos h.e, if_pos h.e']
  show qd3 x (remT c') 0 = qd3 x (remT c) 0
  rw [qh3 x _ _ 0 h.w, qib hs]
theorem Sm.failT {c c' : K} (h : Sm δ tl c c') (hf : Go.Proofs.Ytmekebfgmjaenaa.failT c = false) : Go.Proofs.Ytmekebfgmjaenaa.failT c' = false := by
  unfold Go.Proofs.Ytmekebfgmjaenaa.failT qeq at hf ⊢
  rw [if_pos h.e] at hf
  rw [if_pos h.e']
  by_cases hl' : c'.at' < c'.l.length
  · rw [if_pos hl']
    simp only [Bool.and_eq_false_iff, Bool.not_eq_false', decide_eq_true_eq, Bool.or_eq_false_iff, decide_eq_false_iff_not]
    refine .inr ⟨trivial, ?_⟩
    rcases h.peek with ⟨t, t', r, r', q1, q2, hb, _, p1, p2⟩ | ⟨hr, _, p1⟩
    · have hl : c.at' < c.l.length := (qfi q1 h.e).2
      rw [if_pos hl] at hf
      rw [p2, ← qfr hb, ← p1]
      simpa using hf
    · rcases qmv hs h hr with q | ⟨q, _⟩
      · have hn : remT c' ≠ [] := by
          intro e
          have := congrArg List.length e
          simp [remT] at this; omega
        cases hq : remT c' with
        | nil => exact absurd hq hn
        | cons t' r' =>
          have hw := h.w
          rw [hr, hq] at hw
          rcases hs with rfl | ⟨t, rfl, h1, _⟩
          · simp at hw
          · simp only [List.nil_append, List.map_cons, List.cons.injEq] at hw
            rw [(qfi hq h.e').1, qfr hw.1, h1]; decide
      · rw [q]; decide
  · rw [if_neg hl']; rfl
variable {rec rec' : K → K × Option N} (hr : ∀ c c', Sm δ tl c c' → Side NS δ tl c (rec c) (rec' c'))
include hr
theorem qr0 (c c' : K) (h : Sm δ tl c c') : Side NS δ tl c (qbe rec c) (qbe rec' c') := by
  intro x hx
  cases hk : (kindK c 2).2 with
  | false => rw [qbe, hk] at hx; cases hx
  | true =>
    obtain ⟨k1, k2, k3, k4⟩ := h.kindK (by decide) hk
    rw [qbe, hk, if_pos rfl] at hx ⊢
    rw [qbe, k1, if_pos rfl]
    cases hy : (qbl rec (kindK c 2).1).2 with
    | none => rw [hy] at hx; cases hx
    | some y =>
      rw [hy] at hx
      simp only [Option.map_some, Option.some.injEq] at hx
      subst hx
      rcases qhx hs hr _ _ k2 y hy with ⟨q1, y', q2, q3, q4⟩ | ⟨q1, q2⟩
      · rw [q2]
        exact .inl ⟨q1.trans k3, _, rfl, NS.mk rfl (qct k4).symm (by simp only [List.map_cons, show qy y = qy y' from q3]), q4⟩
      · rw [q1]; exact .inr ⟨rfl, q2⟩
theorem ql5 (many : Bool) : ∀ (f f' : Nat), f ≤ f' → ∀ (c c' : K) (a a' : List N), Sm δ tl c c' → a.map qy = a'.map qy → Side (fun x y => x.map qy = y.map qy) δ tl c (qdh rec many f c a) (qdh rec' many f' c' a')
  | 0, f', _, c, c', a, a', h, ha => fun x hx => by cases hx
  | f + 1, 0, hf, _, _, _, _, _, _ => by omega
  | f + 1, f' + 1, hf, c, c', a, a', h, ha => fun x hx => by
    rw [qdh] at hx ⊢
    rw [qdh]
    cases hy : (qbe rec c).2 with
    | none => rw [hy] at hx; cases hx
    | some y =>
      rw [hy, Option.isSome_some, if_pos rfl] at hx
      rw [Option.isSome_some, if_pos rfl]
      rcases qr0 hs hr c c' h y hy with ⟨q1, y', q2, q3, q4⟩ | ⟨q1, q2⟩
      · rw [q2, Option.isSome_some, if_pos rfl]
        have hl : (a ++ [y]).map qy = (a' ++ [y']).map qy := by simp only [List.map_append, ha, List.map_cons, show qy y = qy y' from q3]
        obtain ⟨t1, t2, t3⟩ := q4.take hs (x := [44]) (by decide) (by decide) (by decide)
        rw [t1]
        simp only [Option.getD_some] at hx ⊢
        cases hb : (many && (qp (qbe rec c).1 [44]).2) with
        | false =>
          rw [hb, if_neg noB] at hx
          rw [if_neg noB, if_neg noB]
          cases hx
          exact .inl ⟨q1, _, rfl, hl, q4⟩
        | true =>
          rw [hb, if_pos rfl] at hx
          rw [if_pos rfl, if_pos rfl]
          rcases ql5 many f f' (by omega) _ _ (a ++ [y]) (a' ++ [y']) t2 hl x hx with ⟨r1, r2⟩ | r
          · exact .inl ⟨by rw [r1, t3, q1], r2⟩
          · exact .inr r
      · rw [q1]; exact .inr ⟨rfl, q2⟩
theorem qtt (many : Bool) (c : K) (p p' : K × Option (List N)) (h : Side (fun x y => x.map qy = y.map qy) δ tl c p p') : Side (fun x y => x.map qy = y.map qy) δ tl c (qdw many p) (qdw many p') := by
  intro x hx
  cases hy : p.2 with
  | none => rw [qdw, hy] at hx; cases hx
  | some y =>
    rw [qdw, hy, Option.isSome_some, if_pos rfl] at hx ⊢
    rw [qdw]
    rcases h y hy with ⟨q1, y', q2, q3, q4⟩ | ⟨q1, q2⟩
    · rw [q2, Option.isSome_some, if_pos rfl]
      cases many with
      | true =>
        rw [if_pos rfl] at hx ⊢
        rw [if_pos rfl]
        cases hw : (qq p.1 [41]).2 with
        | false => rw [hw] at hx; cases hx
        | true =>
          obtain ⟨w1, w2, w3⟩ := q4.want hw
          rw [hw, if_pos rfl] at hx
          rw [w1, if_pos rfl, if_pos rfl]
          cases hv : (qq (qq p.1 [41]).1 [61, 62]).2 with
          | false => rw [hv] at hx; cases hx
          | true =>
            obtain ⟨v1, v2, v3⟩ := w2.want hv
            rw [hv, if_pos rfl] at hx
            rw [v1]
            cases hx
            exact .inl ⟨v3.trans (w3.trans q1), y', rfl, q3, v2⟩
      | false =>
        rw [if_neg noB] at hx ⊢
        rw [if_neg noB]
        cases hv : (qq p.1 [61, 62]).2 with
        | false => rw [hv] at hx; cases hx
        | true =>
          obtain ⟨v1, v2, v3⟩ := q4.want hv
          rw [hv, if_pos rfl] at hx
          rw [v1]
          cases hx
          exact .inl ⟨v3.trans q1, y', rfl, q3, v2⟩
    · rw [q1]; exact .inr ⟨rfl, q2⟩
/-- Where words are left, the two see the same word. -/
theorem Sm.isN {c c' : K} (h : Sm δ tl c c') (hn : remT c ≠ []) (x : List UInt8) : isK c' x = isK c x := by
  unfold isK
  rw [decide_eq_true h.e, decide_eq_true h.e', Bool.true_and, Bool.true_and]
  rcases h.peek with ⟨t, t', r, r', _, _, hb, _, p1, p2⟩ | ⟨hr, _, p1⟩
  · rw [p1, p2, qh0 hb]
  · exact absurd hr hn
theorem qtl (c c' : K) (h : Sm δ tl c c') : Side (fun x y => x.map qy = y.map qy) δ tl c (qe3 rec c) (qe3 rec' c') := by
  intro x hx
  obtain ⟨t1, t2, t3⟩ := h.take hs (x := [40]) (by decide) (by decide) (by decide)
  by_cases hn : remT (qp c [40]).1 = []
  · have hk : isK (qp c [40]).1 [41] = false := by
      unfold isK; rw [qf2 hn t2.e]; simp [qe6]
    rw [qe3, hk, Bool.and_false, if_neg noB, qdh] at hx
    have : (qbe rec (qp c [40]).1).2 = none := by
      cases hq : (kindK (qp c [40]).1 2).2 with
      | false => rw [qbe, hq]; rfl
      | true =>
        have := (qik hq).2
        rw [qf2 hn t2.e] at this; cases this
    rw [this] at hx; cases hx
  · have hk := Sm.isN hs hr t2 hn [41]
    rw [qe3] at hx ⊢
    rw [qe3, t1, hk]
    cases hb : ((qp c [40]).2 && isK (qp c [40]).1 [41]) with
    | true =>
      rw [hb, if_pos rfl] at hx
      rw [if_pos rfl, if_pos rfl]
      cases hx
      exact .inl ⟨t3, _, rfl, rfl, t2⟩
    | false =>
      rw [hb, if_neg noB] at hx
      rw [if_neg noB, if_neg noB]
      have hle := t2.le
      rcases ql5 hs hr (qp c [40]).2 (rest (qp c [40]).1 + 1) (rest (qp c' [40]).1 + 1) (by omega) _ _ [] [] t2 rfl x hx with ⟨r1, r2⟩ | r
      · exact .inl ⟨r1.trans t3, r2⟩
      · exact .inr r
theorem qp8 (c c' : K) (h : Sm δ tl c c') : Side (fun x y => x.map qy = y.map qy) δ tl c (qbb rec c) (qbb rec' c') := by
  rw [qbb, qbb, h.ahead hs]
  cases ha : qgh c [61, 62] with
  | true =>
    rw [if_pos rfl, if_pos rfl, (h.take hs (x := [40]) (by decide) (by decide) (by decide)).1]
    exact qtt hs hr _ c _ _ (qtl hs hr c c' h)
  | false =>
    rw [if_neg noB, if_neg noB]
    intro x hx
    cases hf : failT c with
    | true => rw [hf] at hx; cases hx
    | false =>
      rw [hf] at hx
      rw [Sm.failT hs h hf]
      cases hx
      exact .inl ⟨rfl, _, rfl, rfl, h⟩
end
theorem qrm {δ : Int} {tl : List T} (hs : Stop tl) (f f' : Nat) (hf : f ≤ f') (c c' : K) (h : Sm δ tl c c') : Side NS δ tl c (qdo f c) (qdo f' c') := by
  intro x hx
  have hr := qot (δ := δ) hs f f' hf
  rw [qdo] at hx ⊢
  rw [qdo]
  cases hy : (qbb (qbo f) c).2 with
  | none => rw [hy] at hx; cases hx
  | some y =>
    rw [hy, Option.isSome_some, if_pos rfl] at hx
    rw [Option.isSome_some, if_pos rfl]
    rcases qp8 hs hr c c' h y hy with ⟨q1, y', q2, q3, q4⟩ | ⟨q1, q2⟩
    · rw [q2, Option.isSome_some, if_pos rfl]
      cases hz : (qbo f (qbb (qbo f) c).1).2 with
      | none => rw [hz] at hx; cases hx
      | some z =>
        rw [hz] at hx
        simp only [Option.map_some, Option.getD_some, Option.some.injEq] at hx
        subst hx
        rcases hr _ _ q4 z hz with ⟨u1, z', u2, u3, u4⟩ | ⟨u1, u2⟩
        · rw [u2]
          exact .inl ⟨u1.trans q1, _, rfl, NS.mk rfl rfl (by simp only [List.map_append, Option.getD_some, q3, List.map_cons, show qy z = qy z' from u3]), u4⟩
        · rw [u1]; exact .inr ⟨rfl, u2⟩
    · rw [q1]; exact .inr ⟨rfl, q2⟩

section
variable {δ : Int} {tl : List T} (hs : Stop tl)
include hs
theorem Sm.leafP {c c' : K} (h : Sm δ tl c c') : (∀ n, Go.Proofs.Ytmekebfgmjaenaa.leafP c = some n → ∃ n', Go.Proofs.Ytmekebfgmjaenaa.leafP c' = some n' ∧ NS n n' ∧ (qw c).kind ≠ 0) ∧ (Go.Proofs.Ytmekebfgmjaenaa.leafP c = none → Go.Proofs.Ytmekebfgmjaenaa.leafP c' = none) := by
  have h1 := h.kind hs (k := 1) (by decide) (by decide)
  have h2 := h.kind hs (k := 2) (by decide) (by decide)
  have h3 := h.kind hs (k := 3) (by decide) (by decide)
  have h4 := h.is hs (x := [95]) (by decide) (by decide) (by decide)
  have hb : (qw c).kind ≠ 0 → bare (qw c') = bare (qw c) := fun q => (h.there rfl q).1
  refine ⟨fun n hn => ?_, fun hn => ?_⟩
  · have hk := qhd hn
    have hb := hb hk
    unfold Go.Proofs.Ytmekebfgmjaenaa.leafP at hn ⊢
    simp only [h1, h2, h3, h4]
    split at hn
    · rename_i q; rw [if_pos q]; cases hn; exact ⟨_, rfl, NS.mk rfl (qct hb).symm rfl, hk⟩
    · rename_i q; rw [if_neg q]
      split at hn
      · rename_i q; rw [if_pos q]; cases hn; exact ⟨_, rfl, NS.mk rfl (qct hb).symm rfl, hk⟩
      · rename_i q; rw [if_neg q]
        split at hn
        · rename_i q; rw [if_pos q]; cases hn; exact ⟨_, rfl, NS.mk (qv4 hb).symm rfl rfl, hk⟩
        · rename_i q; rw [if_neg q]
          split at hn
          · rename_i q; rw [if_pos q]; cases hn; exact ⟨_, rfl, NS.mk rfl rfl rfl, hk⟩
          · cases hn
  · unfold Go.Proofs.Ytmekebfgmjaenaa.leafP at hn ⊢
    simp only [h1, h2, h3, h4]
    split at hn
    · cases hn
    · rename_i q; rw [if_neg q]
      split at hn
      · cases hn
      · rename_i q; rw [if_neg q]
        split at hn
        · cases hn
        · rename_i q; rw [if_neg q]
          split at hn
          · cases hn
          · rename_i q; rw [if_neg q]
theorem Sm.leafPs {c c' : K} (h : Sm δ tl c c') : (Go.Proofs.Ytmekebfgmjaenaa.leafP c').isSome = (Go.Proofs.Ytmekebfgmjaenaa.leafP c).isSome := by
  cases hq : Go.Proofs.Ytmekebfgmjaenaa.leafP c with
  | none => rw [(Sm.leafP hs h).2 hq]
  | some n => obtain ⟨n', e, _⟩ := (Sm.leafP hs h).1 n hq; rw [e]; rfl
variable {rec rec' : K → K × Option N} (hr : ∀ c c', Sm δ tl c c' → Side NS δ tl c (rec c) (rec' c'))
include hr
theorem qkx (c c' : K) (h : Sm δ tl c c') : Side NS δ tl c (qbj rec c) (qbj rec' c') := by
  intro x hx
  have hls := Sm.leafPs hs h
  cases hl : (leafP c).isSome with
  | true =>
    rw [hl] at hls
    rw [qbj, if_pos hl] at hx ⊢
    rw [qbj, if_pos hls]
    obtain ⟨n', e, q, hk⟩ := (Sm.leafP hs h).1 x hx
    obtain ⟨hb, hn, e1⟩ := h.there rfl hk
    exact .inl ⟨e1, n', e, q, hn⟩
  | false =>
    rw [hl] at hls
    have hl1 : ¬ (leafP c).isSome = true := by rw [hl]; decide
    have hl2 : ¬ (leafP c').isSome = true := by rw [hls]; decide
    by_cases hk : isK c [40] = true
    · have hk' := (h.isT hk).1
      rw [qbj, if_neg hl1, if_pos hk] at hx ⊢
      rw [qbj, if_neg hl2, if_pos hk']
      cases he : (qe c).2 with
      | false => rw [he] at hx; cases hx
      | true =>
        rw [he, if_pos rfl] at hx
        rw [if_pos rfl]
        rcases h.enter he with ⟨e1, e2, e3⟩ | ⟨e1, e2⟩
        · rw [e1, if_pos rfl]
          obtain ⟨_, g1, g2⟩ := e2.there rfl (by rw [qcp he]; exact qcg hk)
          cases hy : (rec (qt (qe c).1)).2 with
          | none => rw [hy] at hx; cases hx
          | some y =>
            rw [hy, Option.isSome_some, if_pos rfl] at hx
            rw [Option.isSome_some, if_pos rfl]
            rcases hr _ _ g1 y hy with ⟨q1, y', q2, q3, q4⟩ | ⟨q1, q2⟩
            · rw [q2, Option.isSome_some, if_pos rfl]
              cases hw : (qq (rec (qt (qe c).1)).1 [41]).2 with
              | false => rw [hw] at hx; cases hx
              | true =>
                obtain ⟨w1, w2, w3⟩ := q4.want hw
                obtain ⟨l1, l2⟩ := w2.leave (m := c.nest) (by omega) (by have := h.n; omega)
                rw [hw, if_pos rfl] at hx
                cases hx
                rw [w1, if_pos rfl, if_pos rfl]
                exact .inl ⟨l2, y', rfl, q3, l1⟩
            · rw [q1]
              exact .inr ⟨rfl, q2⟩
        · rw [e1]; exact .inr ⟨rfl, e2⟩
    · rw [qbj, if_neg hl1, if_neg hk] at hx; cases hx
theorem Sm.begP {c c' : K} (h : Sm δ tl c c') : Go.Proofs.Ytmekebfgmjaenaa.begP c' = Go.Proofs.Ytmekebfgmjaenaa.begP c := by
  unfold Go.Proofs.Ytmekebfgmjaenaa.begP
  rw [h.is hs (by decide) (by decide) (by decide), Sm.leafPs hs h]
theorem qo6 : ∀ (f f' : Nat), f ≤ f' → ∀ (c c' : K) (a a' : List N), Sm δ tl c c' → a.map qy = a'.map qy → Side (fun x y => x.map qy = y.map qy) δ tl c (qek rec f c a) (qek rec' f' c' a')
  | 0, f', _, c, c', a, a', h, ha => fun x hx => by cases hx
  | f + 1, 0, hf, _, _, _, _, _, _ => by omega
  | f + 1, f' + 1, hf, c, c', a, a', h, ha => fun x hx => by
    have hb := Sm.begP hs hr h
    cases hc : begP c with
    | false =>
      rw [qek, hc, if_neg noB] at hx ⊢
      rw [qek, hb, hc, if_neg noB]
      cases hx
      exact .inl ⟨rfl, _, rfl, ha, h⟩
    | true =>
      rw [qek, hc, if_pos rfl] at hx ⊢
      rw [qek, hb, hc, if_pos rfl]
      cases hy : (qbj rec c).2 with
      | none => rw [hy] at hx; cases hx
      | some y =>
        rw [hy, Option.isSome_some, if_pos rfl] at hx
        rw [Option.isSome_some, if_pos rfl]
        rcases qkx hs hr c c' h y hy with ⟨q1, y', q2, q3, q4⟩ | ⟨q1, q2⟩
        · rw [q2, Option.isSome_some, if_pos rfl]
          have hl : (a ++ [y]).map qy = (a' ++ [y']).map qy := by simp only [List.map_append, ha, List.map_cons, show qy y = qy y' from q3]
          rcases qo6 f f' (by omega) _ _ (a ++ [y]) (a' ++ [y']) q4 hl x hx with ⟨r1, r2⟩ | r
          · exact .inl ⟨by simp only [Option.getD_some]; rw [r1, q1], r2⟩
          · exact .inr r
        · rw [q1]; exact .inr ⟨rfl, q2⟩
end
theorem qo1 {δ : Int} {tl : List T} (hs : Stop tl) : ∀ (f f' : Nat), f ≤ f' → ∀ (c c' : K), Sm δ tl c c' → Side NS δ tl c (qbx f c) (qbx f' c')
  | 0, f', _, c, c', h => fun x hx => by cases hx
  | f + 1, 0, hf, _, _, _ => by omega
  | f + 1, f' + 1, hf, c, c', h => fun x hx => by
    have hr : ∀ d d', Sm δ tl d d' → Side NS δ tl d (qbx f d) (qbx f' d') := fun d d' h => qo1 hs f f' (by omega) d d' h
    rw [qbx] at hx ⊢
    rw [qbx]
    cases he : (qe c).2 with
    | false => rw [he] at hx; cases hx
    | true =>
      rw [he, if_pos rfl] at hx
      rw [if_pos rfl]
      rcases h.enter he with ⟨e1, e2, e3⟩ | ⟨e1, e2⟩
      · rw [e1, if_pos rfl]
        have hn := h.n
        by_cases h2 : (qw (qe c).1).kind = 2
        · rw [if_pos h2] at hx ⊢
          rw [if_pos ((e2.kind hs (by decide) (by decide)).2 h2)]
          obtain ⟨hb, g1, g2⟩ := e2.there h2 (by decide)
          have hle := e2.le
          have hk := qo6 hs hr (rest (qe c).1 + 1) (rest (qe c').1 + 1) (by omega) _ _ [] [] g1 rfl
          cases hy : (qek (qbx f) (rest (qe c).1 + 1) (qt (qe c).1) []).2 with
          | none => rw [hy] at hx; cases hx
          | some y =>
            rw [hy] at hx
            simp only [Option.map_some, Option.some.injEq] at hx
            subst hx
            rcases hk y hy with ⟨q1, y', q2, q3, q4⟩ | ⟨q1, q2⟩
            · obtain ⟨l1, l2⟩ := q4.leave (m := c.nest) (by omega) (by omega)
              rw [q2]
              exact .inl ⟨l2, _, rfl, NS.mk rfl (qct hb).symm q3, l1⟩
            · rw [q1]; exact .inr ⟨rfl, q2.mon (qbc _)⟩
        · rw [if_neg h2] at hx ⊢
          rw [if_neg (fun q => h2 ((e2.kind hs (by decide) (by decide)).1 q))]
          cases hy : (qbj (qbx f) (qe c).1).2 with
          | none => rw [hy] at hx; cases hx
          | some y =>
            rw [hy] at hx
            cases hx
            rcases qkx hs hr _ _ e2 _ hy with ⟨q1, y', q2, q3, q4⟩ | ⟨q1, q2⟩
            · obtain ⟨l1, l2⟩ := q4.leave (m := c.nest) (by omega) (by omega)
              rw [q2]
              exact .inl ⟨l2, _, rfl, q3, l1⟩
            · rw [q1]; exact .inr ⟨rfl, q2.mon (qbc _)⟩
      · rw [e1]; exact .inr ⟨rfl, e2⟩

theorem NS.kids {x y : N} (h : NS x y) : [x].map qy = [y].map qy := by simp only [List.map_cons, List.map_nil, show qy x = qy y from h]
theorem NS.snoc {a a' : List N} {y y' : N} (ha : a.map qy = a'.map qy) (h : NS y y') : (a ++ [y]).map qy = (a' ++ [y']).map qy := by simp only [List.map_append, ha, List.map_cons, show qy y = qy y' from h]
section
variable {δ : Int} {tl : List T} (hs : Stop tl)
include hs
theorem Sm.leafE {c c' : K} (h : Sm δ tl c c') : (∀ n, Go.Proofs.Ytmekebfgmjaenaa.leafE c = some n → ∃ n', Go.Proofs.Ytmekebfgmjaenaa.leafE c' = some n' ∧ NS n n' ∧ (qw c).kind ≠ 0) ∧ (Go.Proofs.Ytmekebfgmjaenaa.leafE c = none → Go.Proofs.Ytmekebfgmjaenaa.leafE c' = none) := by
  have h1 := h.kind hs (k := 1) (by decide) (by decide)
  have h2 := h.kind hs (k := 2) (by decide) (by decide)
  have h3 := h.kind hs (k := 3) (by decide) (by decide)
  have hb : (qw c).kind ≠ 0 → bare (qw c') = bare (qw c) := fun q => (h.there rfl q).1
  refine ⟨fun n hn => ?_, fun hn => ?_⟩
  · have hk := qih (c := c) (by rw [hn]; rfl)
    have hb := hb hk
    unfold Go.Proofs.Ytmekebfgmjaenaa.leafE at hn ⊢
    simp only [h1, h2, h3]
    split at hn
    · rename_i q; rw [if_pos q]; cases hn; exact ⟨_, rfl, NS.mk rfl (qct hb).symm rfl, hk⟩
    · rename_i q; rw [if_neg q]
      split at hn
      · rename_i q; rw [if_pos q]; cases hn; exact ⟨_, rfl, NS.mk rfl (qct hb).symm rfl, hk⟩
      · rename_i q; rw [if_neg q]
        split at hn
        · rename_i q; rw [if_pos q]; cases hn; exact ⟨_, rfl, NS.mk (qv4 hb).symm rfl rfl, hk⟩
        · cases hn
  · unfold Go.Proofs.Ytmekebfgmjaenaa.leafE at hn ⊢
    simp only [h1, h2, h3]
    split at hn
    · cases hn
    · rename_i q; rw [if_neg q]
      split at hn
      · cases hn
      · rename_i q; rw [if_neg q]
        split at hn
        · cases hn
        · rename_i q; rw [if_neg q]
theorem Sm.leafEs {c c' : K} (h : Sm δ tl c c') : (Go.Proofs.Ytmekebfgmjaenaa.leafE c').isSome = (Go.Proofs.Ytmekebfgmjaenaa.leafE c).isSome := by
  cases hq : Go.Proofs.Ytmekebfgmjaenaa.leafE c with
  | none => rw [(Sm.leafE hs h).2 hq]
  | some n => obtain ⟨n', e, _⟩ := (Sm.leafE hs h).1 n hq; rw [e]; rfl
variable {rec rec' : K → K × Option N} (hr : ∀ c c', Sm δ tl c c' → Side NS δ tl c (rec c) (rec' c'))
include hr
theorem qkr (c c' : K) (h : Sm δ tl c c') : Side NS δ tl c (q8 rec c) (q8 rec' c') := by
  intro x hx
  have hls := Sm.leafEs hs h
  cases hl : (leafE c).isSome with
  | true =>
    rw [hl] at hls
    rw [q8, if_pos hl] at hx ⊢
    rw [q8, if_pos hls]
    obtain ⟨n', e, q, hk⟩ := (Sm.leafE hs h).1 x hx
    obtain ⟨hb, hn, e1⟩ := h.there rfl hk
    exact .inl ⟨e1, n', e, q, hn⟩
  | false =>
    rw [hl] at hls
    have hl1 : ¬ (leafE c).isSome = true := by rw [hl]; decide
    have hl2 : ¬ (leafE c').isSome = true := by rw [hls]; decide
    by_cases hk : isK c [40] = true
    · have hk' := (h.isT hk).1
      rw [q8, if_neg hl1, if_pos hk] at hx ⊢
      rw [q8, if_neg hl2, if_pos hk']
      cases he : (qe c).2 with
      | false => rw [he] at hx; cases hx
      | true =>
        rw [he, if_pos rfl] at hx
        rw [if_pos rfl]
        rcases h.enter he with ⟨e1, e2, e3⟩ | ⟨e1, e2⟩
        · rw [e1, if_pos rfl]
          obtain ⟨_, g1, g2⟩ := e2.there rfl (by rw [qcp he]; exact qcg hk)
          cases hy : (rec (qt (qe c).1)).2 with
          | none => rw [hy] at hx; cases hx
          | some y =>
            rw [hy, Option.isSome_some, if_pos rfl] at hx
            rw [Option.isSome_some, if_pos rfl]
            rcases hr _ _ g1 y hy with ⟨q1, y', q2, q3, q4⟩ | ⟨q1, q2⟩
            · rw [q2, Option.isSome_some, if_pos rfl]
              cases hw : (qq (rec (qt (qe c).1)).1 [41]).2 with
              | false => rw [hw] at hx; cases hx
              | true =>
                obtain ⟨w1, w2, w3⟩ := q4.want hw
                obtain ⟨l1, l2⟩ := w2.leave (m := c.nest) (by omega) (by have := h.n; omega)
                rw [hw, if_pos rfl] at hx
                cases hx
                rw [w1, if_pos rfl, if_pos rfl]
                exact .inl ⟨l2, y', rfl, q3, l1⟩
            · rw [q1]
              exact .inr ⟨rfl, q2⟩
        · rw [e1]; exact .inr ⟨rfl, e2⟩
    · rw [q8, if_neg hl1, if_neg hk] at hx; cases hx
theorem Sm.begE {c c' : K} (h : Sm δ tl c c') : Go.Proofs.Ytmekebfgmjaenaa.begE c' = Go.Proofs.Ytmekebfgmjaenaa.begE c := by
  unfold Go.Proofs.Ytmekebfgmjaenaa.begE
  rw [h.is hs (by decide) (by decide) (by decide), Sm.leafEs hs h]
/-- Readings that give a tree and whether it is one. -/
abbrev qjh (δ : Int) (tl : List T) (c : K) (p p' : R3) : Prop := Side NS δ tl c (toO p) (toO p')
theorem qbz {c : K} {p p' : R3} (h : p.2.2 = true → (p.1.nest = c.nest ∧ p'.2.2 = true ∧ NS p.2.1 p'.2.1 ∧ Sm δ tl p.1 p'.1) ∨ (p'.2.2 = false ∧ Lim δ p'.1)) : qjh δ tl c p p' := by
  intro x hx
  unfold toO at hx ⊢
  simp only at hx ⊢
  cases hp : p.2.2 with
  | false => rw [hp] at hx; cases hx
  | true =>
    rw [hp, if_pos rfl] at hx
    cases hx
    rcases h hp with ⟨q1, q2, q3, q4⟩ | ⟨q1, q2⟩
    · rw [q2]; exact .inl ⟨q1, _, rfl, q3, q4⟩
    · rw [q1]; exact .inr ⟨rfl, q2⟩
theorem qlx {c : K} {p p' : R3} (h : qjh δ tl c p p') (hp : p.2.2 = true) : (p.1.nest = c.nest ∧ p'.2.2 = true ∧ NS p.2.1 p'.2.1 ∧ Sm δ tl p.1 p'.1) ∨ (p'.2.2 = false ∧ Lim δ p'.1) := by
  have hx : (toO p).2 = some p.2.1 := by unfold toO; rw [hp]; rfl
  rcases h _ hx with ⟨q1, x', q2, q3, q4⟩ | ⟨q1, q2⟩
  · unfold toO at q2
    cases hp' : p'.2.2 with
    | false => simp only [hp', if_neg noB] at q2; cases q2
    | true =>
      simp only [hp', if_true, Option.some.injEq] at q2
      subst q2
      exact .inl ⟨q1, rfl, q3, q4⟩
  · unfold toO at q1
    cases hp' : p'.2.2 with
    | false => exact .inr ⟨rfl, q2⟩
    | true => simp only [hp', if_true] at q1; cases q1
theorem qlp {c : K} {p p' : K × Option N} (h : Side NS δ tl c p p') : qjh δ tl c (ofO p) (ofO p') := by
  refine qbz hs hr fun hp => ?_
  cases hy : p.2 with
  | none => simp only [ofO, hy] at hp; cases hp
  | some y =>
    rcases h y hy with ⟨q1, y', q2, q3, q4⟩ | ⟨q1, q2⟩
    · exact .inl ⟨q1, by simp only [ofO, q2]; rfl, by simp only [ofO, hy, q2]; exact q3, q4⟩
    · exact .inr ⟨by simp only [ofO, q1]; rfl, q2⟩
theorem qks : ∀ (f f' : Nat), f ≤ f' → ∀ (c c' : K) (n n' : N), Sm δ tl c c' → NS n n' → qjh δ tl c (qdj rec f c n) (qdj rec' f' c' n')
  | 0, f', _, c, c', a, a', h, ha => fun x hx => by cases hx
  | f + 1, 0, hf, _, _, _, _, _, _ => by omega
  | f + 1, f' + 1, hf, c, c', n, n', h, ha => by
    have hb := Sm.begE hs hr h
    rw [qdj, qdj, hb]
    cases hc : begE c with
    | false =>
      rw [if_neg noB, if_neg noB]
      exact qbz hs hr fun _ => .inl ⟨rfl, rfl, ha, h⟩
    | true =>
      rw [if_pos rfl, if_pos rfl]
      cases hy : (q8 rec c).2 with
      | none => rw [Option.isSome_none, if_neg noB]; exact qbz hs hr fun q => by cases q
      | some y =>
        rw [Option.isSome_some, if_pos rfl]
        rcases qkr hs hr c c' h y hy with ⟨q1, y', q2, q3, q4⟩ | ⟨q1, q2⟩
        · rw [q2, Option.isSome_some, if_pos rfl]
          have := qks f f' (by omega) _ _ (appN n y) (appN n' y') q4 (NS.mk rfl rfl (by simp only [List.map_cons, show qy n = qy n' from ha, show qy y = qy y' from q3]))
          intro x hx
          rcases this x hx with ⟨r1, r2⟩ | r
          · exact .inl ⟨r1.trans q1, r2⟩
          · exact .inr r
        · rw [q1]; exact qbz hs hr fun _ => .inr ⟨rfl, q2⟩
theorem quc (c c' : K) (h : Sm δ tl c c') : qjh δ tl c (qeg rec c) (qeg rec' c') := by
  rw [qeg, qeg]
  cases hy : (q8 rec c).2 with
  | none => rw [Option.isSome_none, if_neg noB]; exact qbz hs hr fun q => by cases q
  | some y =>
    rw [Option.isSome_some, if_pos rfl]
    rcases qkr hs hr c c' h y hy with ⟨q1, y', q2, q3, q4⟩ | ⟨q1, q2⟩
    · rw [q2, Option.isSome_some, if_pos rfl]
      have hle := q4.le
      intro x hx
      rcases qks hs hr (rest (q8 rec c).1 + 1) (rest (q8 rec' c').1 + 1) (by omega) _ _ y y' q4 q3 x hx with ⟨r1, r2⟩ | r
      · exact .inl ⟨r1.trans q1, r2⟩
      · exact .inr r
    · rw [q1]; exact qbz hs hr fun _ => .inr ⟨rfl, q2⟩
theorem qhe (w : List UInt8) : ∀ (f f' : Nat), f ≤ f' → ∀ (c c' : K), Sm δ tl c c' → qjh δ tl c (qby rec w f c) (qby rec' w f' c')
  | 0, f', _, c, c', h => fun x hx => by cases hx
  | f + 1, 0, hf, _, _, _ => by omega
  | f + 1, f' + 1, hf, c, c', h => by
    rw [qby, qby]
    by_cases h1 : (qw c).kind = 1
    · obtain ⟨hb, hn, e⟩ := h.there h1 (by decide)
      rw [if_pos h1, if_pos ((h.kind hs (by decide) (by decide)).2 h1)]
      refine qbz hs hr fun hp => ?_
      rcases qlx hs hr (qhe w f f' (by omega) _ _ hn) hp with ⟨q1, q2, q3, q4⟩ | q
      · exact .inl ⟨q1.trans e, q2, NS.mk rfl (qct hb).symm q3.kids, q4⟩
      · exact .inr q
    · rw [if_neg h1, if_neg (fun q => h1 ((h.kind hs (by decide) (by decide)).1 q))]
      cases hw : (qq c w).2 with
      | false => rw [if_neg noB]; exact qbz hs hr fun q => by cases q
      | true =>
        obtain ⟨w1, w2, w3⟩ := h.want hw
        rw [w1, if_pos rfl, if_pos rfl]
        intro x hx
        rcases qlp hs hr (hr _ _ w2) x hx with ⟨r1, r2⟩ | r
        · exact .inl ⟨r1.trans w3, r2⟩
        · exact .inr r
/-- A reading's place does not matter but for its nest. -/
theorem Side.at {α : Type} {R : α → α → Prop} {c d : K} {p p' : K × Option α} (h : Side R δ tl c p p') (e : c.nest = d.nest) : Side R δ tl d p p' := fun x hx => (h x hx).imp (fun q => ⟨q.1.trans e, q.2⟩) id
theorem Side.map {α β : Type} {R : α → α → Prop} {S : β → β → Prop} {c : K} {p p' : K × Option α} {g g' : α → β} (h : Side R δ tl c p p') (hg : ∀ x x', R x x' → S (g x) (g' x')) : Side S δ tl c (p.1, p.2.map g) (p'.1, p'.2.map g') := by
  intro x hx
  cases hy : p.2 with
  | none => simp only [hy] at hx; cases hx
  | some y =>
    simp only [hy, Option.map_some, Option.some.injEq] at hx
    subst hx
    rcases h y hy with ⟨q1, y', q2, q3, q4⟩ | ⟨q1, q2⟩
    · exact .inl ⟨q1, g' y', by simp only [q2]; rfl, hg _ _ q3, q4⟩
    · exact .inr ⟨by simp only [q1]; rfl, q2⟩
theorem qrl (c c' : K) (h : Sm δ tl c c') : Side NS δ tl c (qbq rec c) (qbq rec' c') := by
  rw [qbq, qbq]
  cases hk : (kindK c 1).2 with
  | false => rw [if_neg noB]; intro x hx; cases hx
  | true =>
    obtain ⟨k1, k2, k3, k4⟩ := h.kindK (by decide) hk
    obtain ⟨t1, t2, t3⟩ := k2.take hs (x := [58, 58]) (by decide) (by decide) (by decide)
    rw [k1, t1, if_pos rfl, if_pos rfl]
    cases ht : (qp (kindK c 1).1 [58, 58]).2 with
    | true =>
      rw [if_pos rfl, if_pos rfl]
      have hle := t2.le
      exact Side.map hs hr (Side.at hs hr (qrm hs _ _ (by omega) _ _ t2) (t3.trans k3)) fun x x' q => NS.mk rfl (qct k4).symm (NS.kids q)
    | false =>
      rw [if_neg noB, if_neg noB]
      have hle := k2.le
      exact Side.map hs hr (Side.at hs hr (qhe hs hr [61] _ _ (by omega) _ _ k2) k3) fun x x' q => NS.mk rfl (qct k4).symm (NS.kids q)
end

theorem qml {c : K} (hn : remT c = []) (x : List UInt8) : isK c x = false := by
  cases he : decide (c.err = 0) with
  | true => unfold isK; rw [qf2 hn (by simpa using he)]; simp [qe6]
  | false => exact qqo (by simpa using he)
theorem q55 {c : K} (hn : remT c = []) (x : List UInt8) : (qq c x).2 = false := by
  unfold qq; rw [if_neg (by rw [qml hn]; exact noB)]
theorem q5f {c : K} (hn : remT c = []) {k : Int} (h0 : k ≠ 0) : (kindK c k).2 = false := by
  cases hq : (kindK c k).2 with
  | false => rfl
  | true =>
    have := qik hq
    rw [qf2 hn this.1] at this; exact absurd this.2.symm h0
def qbny (δ : Int) (tl : List T) (c : K) (p p' : RL) : Prop := p.2.2 = true → (p.1.nest = c.nest ∧ p'.2.2 = true ∧ p.2.1.map qy = p'.2.1.map qy ∧ Sm δ tl p.1 p'.1) ∨ (p'.2.2 = false ∧ Lim δ p'.1)
section
variable {δ : Int} {tl : List T} (hs : Stop tl)
include hs
theorem qjk {rd rd' : K → R3} (hd : ∀ c c', Sm δ tl c c' → qjh δ tl c (rd c) (rd' c')) (hend : ∀ c, remT c = [] → (rd c).2.2 = false) : ∀ (f f' : Nat), f ≤ f' → ∀ (c c' : K) (a a' : List N), Sm δ tl c c' → a.map qy = a'.map qy → qbny δ tl c (qbr rd f c a) (qbr rd' f' c' a')
  | 0, f', _, c, c', a, a', h, ha => fun hp => by cases hp
  | f + 1, 0, hf, _, _, _, _, _, _ => by omega
  | f + 1, f' + 1, hf, c, c', a, a', h, ha => fun hp => by
    rw [qbr] at hp ⊢
    rw [qbr]
    cases hy : (rd c).2.2 with
    | false => rw [hy, if_neg noB] at hp; cases hp
    | true =>
      rw [hy, if_pos rfl] at hp
      rw [if_pos rfl]
      rcases qlx (rec := fun c => (c, none)) (rec' := fun c => (c, none)) hs (fun c c' _ x hx => by cases hx) (hd _ _ h) hy with ⟨q1, q2, q3, q4⟩ | ⟨q1, q2⟩
      · rw [q2, if_pos rfl]
        have hl := NS.snoc ha q3
        by_cases hn : remT (rd c).1 = []
        · rw [qfs (qml hn _)] at hp
          simp only [Bool.false_and, if_neg noB, q55 hn] at hp
          cases hp
        · have h1 := fun x => Sm.isN (rec := fun c => (c, none)) (rec' := fun c => (c, none)) hs (fun c c' _ x hx => by cases hx) q4 hn x
          cases ht : isK (rd c).1 [59] with
          | false =>
            rw [qfs ht] at hp ⊢
            rw [qfs ((h1 _).trans ht)]
            simp only [Bool.false_and, if_neg noB] at hp ⊢
            obtain ⟨w1, w2, w3⟩ := q4.want hp
            exact .inl ⟨w3.trans q1, w1, hl, w2⟩
          | true =>
            obtain ⟨g1, g2, g3⟩ := q4.isT ht
            rw [qnn ht] at hp ⊢
            rw [qnn g1]
            simp only [Bool.true_and] at hp ⊢
            by_cases hn2 : remT (qt (rd c).1) = []
            · exfalso
              rw [qml hn2] at hp
              simp only [Bool.not_false, if_true] at hp
              cases f with
              | zero => cases hp
              | succ f => rw [qbr, hend _ hn2, if_neg noB] at hp; cases hp
            · rw [Sm.isN (rec := fun c => (c, none)) (rec' := fun c => (c, none)) hs (fun c c' _ x hx => by cases hx) g2 hn2 [125]]
              cases hk : isK (qt (rd c).1) [125] with
              | true =>
                rw [hk] at hp
                simp only [Bool.not_true, if_neg noB] at hp ⊢
                obtain ⟨w1, w2, w3⟩ := g2.want hp
                exact .inl ⟨by rw [w3, g3, q1], w1, hl, w2⟩
              | false =>
                rw [hk] at hp
                simp only [Bool.not_false, if_true] at hp ⊢
                rcases qjk hd hend f f' (by omega) _ _ _ _ g2 hl hp with ⟨r1, r2⟩ | r
                · exact .inl ⟨by rw [r1, g3, q1], r2⟩
                · exact .inr r
      · rw [q1, if_neg noB]; exact .inr ⟨rfl, q2⟩
theorem qku {rd rd' : K → R3} (hd : ∀ c c', Sm δ tl c c' → qjh δ tl c (rd c) (rd' c')) (hend : ∀ c, remT c = [] → (rd c).2.2 = false) (c c' : K) (h : Sm δ tl c c') : qbny δ tl c (qbh rd c) (qbh rd' c') := by
  intro hp
  rw [qbh] at hp ⊢
  rw [qbh]
  cases hw : (qq c [123]).2 with
  | false => rw [hw, if_neg noB] at hp; cases hp
  | true =>
    obtain ⟨w1, w2, w3⟩ := h.want hw
    rw [hw, if_pos rfl] at hp
    rw [w1, if_pos rfl, if_pos rfl]
    have hle := w2.le
    rcases qjk hs hd hend (rest (qq c [123]).1 + 1) (rest (qq c' [123]).1 + 1) (by omega) _ _ [] [] w2 rfl hp with ⟨r1, r2⟩ | r
    · exact .inl ⟨r1.trans w3, r2⟩
    · exact .inr r
variable {rec rec' : K → K × Option N} (hr : ∀ c c', Sm δ tl c c' → Side NS δ tl c (rec c) (rec' c'))
include hr
theorem qyu (d d' : K) (p p' : Int) (l l' : List N) (w w' : K × Bool) (hl : l.map qy = l'.map qy) (hw : w.2 = true → w'.2 = true ∧ Sm δ tl w.1 w'.1 ∧ w.1.nest = d.nest) : qjh δ tl d (letC rec p l w) (letC rec' p' l' w') := by
  rw [letC, letC]
  cases h : w.2 with
  | false => rw [if_neg noB]; exact qbz hs hr fun q => by cases q
  | true =>
    obtain ⟨w1, w2, w3⟩ := hw h
    rw [w1, if_pos rfl, if_pos rfl]
    refine qbz hs hr fun hp => ?_
    rcases qlx hs hr (qlp hs hr (hr _ _ w2)) hp with ⟨q1, q2, q3, q4⟩ | q
    · exact .inl ⟨q1.trans w3, q2, NS.mk rfl rfl (NS.snoc hl q3), q4⟩
    · exact .inr q
theorem qt9 (p p' : Int) (c c' : K) (h : Sm δ tl c c') : qjh δ tl c (qfz rec p c) (qfz rec' p' c') := by
  have hb := qku hs (rd := fun c => ofO (qbq rec c)) (rd' := fun c => ofO (qbq rec' c)) (fun c c' h => qlp hs hr (qrl hs hr c c' h)) (fun c hn => by
    show (qbq rec c).2.isSome = false
    rw [qbq, q5f hn (by decide), if_neg noB]; rfl) c c' h
  rw [qfz, qfz, letB, letB]
  cases hp : (qbh (fun c => ofO (qbq rec c)) c).2.2 with
  | false => rw [if_neg noB]; exact qbz hs hr fun q => by cases q
  | true =>
    rw [if_pos rfl]
    rcases hb hp with ⟨q1, q2, q3, q4⟩ | ⟨q1, q2⟩
    · rw [q2, if_pos rfl]
      refine qyu hs hr _ c _ _ _ _ _ _ q3 fun hw => ?_
      obtain ⟨w1, w2, w3⟩ := q4.want hw
      exact ⟨w1, w2, w3.trans q1⟩
    · rw [q1, if_neg noB]; exact qbz hs hr fun _ => .inr ⟨rfl, q2⟩
theorem qty (c c' : K) (h : Sm δ tl c c') : qjh δ tl c (qdf rec c) (qdf rec' c') := by
  have hle := h.le
  have hb := qo1 hs (rest c + 2) (rest c' + 2) (by omega) c c' h
  rw [qdf, qdf, altB, altB]
  cases hy : (qbx (rest c + 2) c).2 with
  | none => rw [Option.isSome_none, if_neg noB]; exact qbz hs hr fun q => by cases q
  | some y =>
    rw [Option.isSome_some, if_pos rfl]
    rcases hb y hy with ⟨q1, y', q2, q3, q4⟩ | ⟨q1, q2⟩
    · rw [q2, Option.isSome_some, if_pos rfl, altC, altC]
      cases hw : (qq (qbx (rest c + 2) c).1 [45, 62]).2 with
      | false => rw [if_neg noB]; exact qbz hs hr fun q => by cases q
      | true =>
        obtain ⟨w1, w2, w3⟩ := q4.want hw
        rw [w1, if_pos rfl, if_pos rfl]
        refine qbz hs hr fun hp => ?_
        rcases qlx hs hr (qlp hs hr (hr _ _ w2)) hp with ⟨r1, r2, r3, r4⟩ | q
        · exact .inl ⟨r1.trans (w3.trans q1), r2, NS.mk rfl rfl (by simp only [List.map_cons, List.map_nil, Option.getD_some]; rw [show qy y = qy y' from q3]; exact congrArg (fun z => [qy y', z]) r3), r4⟩
        · exact .inr q
    · rw [q1, Option.isSome_none, if_neg noB]; exact qbz hs hr fun _ => .inr ⟨rfl, q2⟩
theorem qbcp (c : K) (hn : remT c = []) : (qdf rec c).2.2 = false := by
  have : (qbx (rest c + 2) c).2 = none := by
    rw [qbx]
    cases he : (qe c).2 with
    | false => rw [if_neg noB]
    | true =>
      have h0 : c.err = 0 := (qhw he).1
      have hp := qcp he
      rw [qf2 hn h0] at hp
      have hn2 : remT (qe c).1 = [] := by rw [(qhw he).2.2]; exact hn
      have hl : leafP (qe c).1 = none := by
        unfold leafP
        rw [hp, qml hn2]
        simp
      rw [if_pos rfl, if_neg (by rw [hp]; exact (by decide : ¬ (0 : Int) = 2)), qbj, hl, qml hn2, Option.isSome_none, if_neg noB, if_neg noB]
  rw [qdf, altB, this, Option.isSome_none, if_neg noB]
theorem qrg (p p' : Int) (c c' : K) (h : Sm δ tl c c') : qjh δ tl c (qea rec p c) (qea rec' p' c') := by
  rw [qea, qea]
  cases hy : (rec c).2 with
  | none => rw [Option.isSome_none, if_neg noB]; exact qbz hs hr fun q => by cases q
  | some y =>
    rw [Option.isSome_some, if_pos rfl]
    rcases hr _ _ h y hy with ⟨q1, y', q2, q3, q4⟩ | ⟨q1, q2⟩
    · rw [q2, Option.isSome_some, if_pos rfl, quj, quj]
      cases hw : (qq (rec c).1 [111, 102]).2 with
      | false => rw [if_neg noB]; exact qbz hs hr fun q => by cases q
      | true =>
        obtain ⟨w1, w2, w3⟩ := q4.want hw
        rw [w1, if_pos rfl, if_pos rfl, qu0, qu0]
        refine qbz hs hr fun hp => ?_
        rcases qku hs (fun c c' h => qty hs hr c c' h) (fun c hn => qbcp hs hr c hn) _ _ w2 hp with ⟨r1, r2, r3, r4⟩ | q
        · exact .inl ⟨by rw [r1, w3, q1], r2, NS.mk rfl rfl (by rw [List.map_cons, List.map_cons, r3]; exact congrArg (· :: _) q3), r4⟩
        · exact .inr q
    · rw [q1, Option.isSome_none, if_neg noB]; exact qbz hs hr fun _ => .inr ⟨rfl, q2⟩
theorem q1t (c c' : K) (h : Sm δ tl c c') (w : List UInt8) (hw : (ifsK c w).2 = true) : (ifsK c' w).2 = true ∧ Sm δ tl (ifsK c w).1 (ifsK c' w).1 ∧ (ifsK c w).1.nest = c.nest := by
  unfold ifsK at hw ⊢
  by_cases h0 : w = []
  · rw [if_pos h0, if_pos h0]; exact ⟨rfl, h, rfl⟩
  · rw [if_neg h0] at hw
    rw [if_neg h0, if_neg h0]
    exact h.want hw
theorem qmu (p p' : Int) : ∀ (ws : List (List UInt8)) (c c' : K) (a a' : List N), Sm δ tl c c' → a.map qy = a'.map qy → qjh δ tl c (qc6 rec p ws c a) (qc6 rec' p' ws c' a')
  | [], c, c', a, a', h, ha => by
    rw [qc6, qc6]
    exact qbz hs hr fun _ => .inl ⟨rfl, rfl, NS.mk rfl rfl ha, h⟩
  | w :: r, c, c', a, a', h, ha => by
    rw [qc6, qc6]
    cases hw : (ifsK c w).2 with
    | false => rw [if_neg noB]; exact qbz hs hr fun q => by cases q
    | true =>
      obtain ⟨w1, w2, w3⟩ := q1t hs hr c c' h w hw
      rw [w1, if_pos rfl, if_pos rfl]
      cases hy : (rec (ifsK c w).1).2 with
      | none => rw [Option.isSome_none, if_neg noB]; exact qbz hs hr fun q => by cases q
      | some y =>
        rw [Option.isSome_some, if_pos rfl]
        rcases hr _ _ w2 y hy with ⟨q1, y', q2, q3, q4⟩ | ⟨q1, q2⟩
        · rw [q2, Option.isSome_some, if_pos rfl]
          exact Side.at hs hr (qmu p p' r _ _ (a ++ [y]) (a' ++ [y']) q4 (NS.snoc ha q3)) (q1.trans w3)
        · rw [q1, Option.isSome_none, if_neg noB]; exact qbz hs hr fun _ => .inr ⟨rfl, q2⟩
theorem qsw (c c' : K) (h : Sm δ tl c c') : qjh δ tl c (qcs rec c) (qcs rec' c') := by
  rw [qcs, qcs]
  obtain ⟨t1, t2, t3⟩ := h.take hs (x := [92]) (by decide) (by decide) (by decide)
  rw [t1]
  cases ht : (qp c [92]).2 with
  | true =>
    rw [if_pos rfl, if_pos rfl]
    by_cases h1 : (qw (qp c [92]).1).kind = 1
    · rw [if_pos h1, if_pos ((t2.kind hs (by decide) (by decide)).2 h1)]
      have hle := t2.le
      exact Side.at hs hr (qhe hs hr _ _ _ (by omega) _ _ t2) t3
    · rw [if_neg h1]; exact qbz hs hr fun q => by cases q
  | false =>
    rw [if_neg noB, if_neg noB]
    obtain ⟨u1, u2, u3⟩ := h.take hs (x := [108, 101, 116]) (by decide) (by decide) (by decide)
    rw [u1]
    cases hu : (qp c [108, 101, 116]).2 with
    | true => rw [if_pos rfl, if_pos rfl]; exact Side.at hs hr (qt9 hs hr _ _ _ _ u2) u3
    | false =>
      rw [if_neg noB, if_neg noB]
      obtain ⟨v1, v2, v3⟩ := h.take hs (x := [99, 97, 115, 101]) (by decide) (by decide) (by decide)
      rw [v1]
      cases hv : (qp c [99, 97, 115, 101]).2 with
      | true => rw [if_pos rfl, if_pos rfl]; exact Side.at hs hr (qrg hs hr _ _ _ _ v2) v3
      | false =>
        rw [if_neg noB, if_neg noB]
        obtain ⟨w1, w2, w3⟩ := h.take hs (x := [105, 102]) (by decide) (by decide) (by decide)
        rw [w1]
        cases hw : (qp c [105, 102]).2 with
        | true => rw [if_pos rfl, if_pos rfl]; exact Side.at hs hr (qmu hs hr _ _ ifsW _ _ [] [] w2 rfl) w3
        | false => rw [if_neg noB, if_neg noB]; exact quc hs hr c c' h
end
theorem qop {δ : Int} {tl : List T} (hs : Stop tl) : ∀ (f f' : Nat), f ≤ f' → ∀ (c c' : K), Sm δ tl c c' → Side NS δ tl c (qbt f c) (qbt f' c')
  | 0, f', _, c, c', h => fun x hx => by cases hx
  | f + 1, 0, hf, _, _, _ => by omega
  | f + 1, f' + 1, hf, c, c', h => fun x hx => by
    have hr : ∀ d d', Sm δ tl d d' → Side NS δ tl d (qbt f d) (qbt f' d') := fun d d' h => qop hs f f' (by omega) d d' h
    rw [qbt] at hx ⊢
    rw [qbt]
    cases he : (qe c).2 with
    | false => rw [he] at hx; cases hx
    | true =>
      rw [he, if_pos rfl] at hx
      rw [if_pos rfl]
      rcases h.enter he with ⟨e1, e2, e3⟩ | ⟨e1, e2⟩
      · rw [e1, if_pos rfl]
        have hn := h.n
        rcases qsw hs hr _ _ e2 x hx with ⟨q1, y', q2, q3, q4⟩ | ⟨q1, q2⟩
        · have q1 : (qcs (qbt f) (qe c).1).1.nest = (qe c).1.nest := q1
          obtain ⟨l1, l2⟩ := q4.leave (m := c.nest) (by show (qcs (qbt f) (qe c).1).1.nest = _; omega) (by omega)
          exact .inl ⟨l2, y', q2, q3, l1⟩
        · exact .inr ⟨q1, q2.mon (qbc _)⟩
      · rw [e1]; exact .inr ⟨rfl, e2⟩
end Go.Proofs.Ytmekebfgmjaenaa
