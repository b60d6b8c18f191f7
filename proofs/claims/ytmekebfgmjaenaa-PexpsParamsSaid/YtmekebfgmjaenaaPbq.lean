/- Texts of this proof, joined. -/
import Derived.Test.YtmekebfgmjaenaaPbj
import Derived.Test.YtmekebfgmjaenaaPbp

/- readings of whole texts, side by side: the same tree but for Pos, or too deep -/
namespace Go.Proofs.Ytmekebfgmjaenaa
open Go Go.RowKit Go.V
set_option linter.unusedVariables false
set_option linter.unusedSimpArgs false

theorem qxo {l : List N} (h : ∀ x ∈ l, depR (qu x) = depR x) : ∀ a, qoe a (l.map qu) = qoe a l := by
  induction l with
  | nil => intro a; rfl
  | cons x r ih =>
    intro a
    rw [List.map_cons, qoe, qoe, h x (by simp), ih (fun y hy => h y (by simp [hy]))]
theorem qsm : ∀ n, depR (qu n) = depR n := by
  refine N.ind fun n ih => ?_
  rw [qu1 n, qu1 (qu n), show (qu n).kids = n.kids.map qu by rw [qnn, ← qfz]; rfl, qxo ih]
theorem NS.dep {x y : N} (h : NS x y) : depR x = depR y := by rw [← qsm x, show qu x = qu y from h, qsm]
theorem q3v {l : List N} (h : ∀ x ∈ l, ∀ y, qu x = qu y → qof x y = true) : ∀ l' : List N, l.map qu = l'.map qu → qd6 l l' = true := by
  induction l with
  | nil => intro l' h'; cases l' with
    | nil => rw [qd6]
    | cons y r => simp at h'
  | cons x r ih => intro l' h'; cases l' with
    | nil => simp at h'
    | cons y r' =>
      simp only [List.map_cons, List.cons.injEq] at h'
      rw [qd6, h x (by simp) y h'.1, ih (fun z hz => h z (by simp [hz])) r' h'.2]; rfl
theorem q2j : ∀ x y, qu x = qu y → qof x y = true := by
  refine N.ind fun x ih y h => ?_
  have hx := qnn x
  have hy := qnn y
  rw [hx, hy, qfz, qfz] at h
  simp only [N.mk.injEq, true_and] at h
  obtain ⟨h1, h2, h3, h4⟩ := h
  rw [qiv, h1, h2, h3, q3v ih _ h4]
  simp
/-- What the reading of a text has read. -/
theorem qto {k : Nat} (hk : 2 ≤ k) {s : List UInt8} (h : (expK k s).2.2 = 0) : (lexV s).2.2 = 0 ∧ ∃ x, (qbp (rest (newK (lexV s).1) + k) (newK (lexV s).1)).2 = some x ∧ (qe6 (qbp (rest (newK (lexV s).1) + k) (newK (lexV s).1)).1).2 = 0 ∧ ¬ depR x > 100 ∧ expK k s = (x, 0, 0) := by
  unfold expK qy7 at h ⊢
  by_cases hl : (lexV s).2.2 = 0
  · rw [if_pos hl] at h ⊢
    refine ⟨hl, ?_⟩
    have hal := qtm (rest (newK (lexV s).1) + k) (newK (lexV s).1) (fun t ht => qne ht) (by have := qxr (newK (lexV s).1); omega)
    simp only at h ⊢
    unfold qvm at h ⊢
    by_cases hd : (qe6 (qbp (rest (newK (lexV s).1) + k) (newK (lexV s).1)).1).2 = 0
    · rw [if_pos hd] at h ⊢
      cases hq : (qbp (rest (newK (lexV s).1) + k) (newK (lexV s).1)).2 with
      | none => exact absurd (q03 hd) (hal.2.2 hq)
      | some x =>
        rw [hq] at h
        simp only [Option.getD_some] at h ⊢
        by_cases hx : depR x > 100
        · rw [if_pos hx] at h; cases h
        · exact ⟨x, rfl, hd, hx, by rw [if_neg hx]⟩
    · rw [if_neg hd] at h; exact absurd h hd
  · rw [if_neg hl] at h; exact absurd h hl
theorem q0s {k : Nat} {s : List UInt8} {x : N} (hl : (lexV s).2.2 = 0) (hx : (qbp (rest (newK (lexV s).1) + k) (newK (lexV s).1)).2 = some x) (hd : (qe6 (qbp (rest (newK (lexV s).1) + k) (newK (lexV s).1)).1).2 = 0) (hp : ¬ depR x > 100) : expK k s = (x, 0, 0) := by
  unfold expK qy7
  rw [if_pos hl]
  simp only
  unfold qvm
  rw [if_pos hd, hx, Option.getD_some, if_neg hp]
theorem qsn {c : K} (h : (qe6 c).2 = 0) : c.err = 0 ∧ remT c = [] := by
  have he := q03 h
  refine ⟨he, ?_⟩
  unfold qe6 at h
  rw [if_pos he] at h
  by_cases hl : c.at' < c.l.length
  · rw [if_pos hl] at h; cases h
  · exact List.drop_of_length_le (by omega)
theorem qtl {c : K} (he : c.err = 0) (h : remT c = []) : (qe6 c).2 = 0 := by
  unfold qe6
  have : ¬ c.at' < c.l.length := by
    have := congrArg List.length h
    simp [remT] at this; omega
  rw [if_pos he, if_neg this]
/-- The words of a text, as the reader sees them. -/
theorem qvv {s : List UInt8} (hs : s.length ≤ 1048576) : ((lexV s).2.2 = 0 ↔ (wl s).2 = 0) ∧ ((lexV s).2.2 = 0 → (remT (newK (lexV s).1)).map bare = (wl s).1 ∧ (newK (lexV s).1).nest = 0 ∧ (newK (lexV s).1).err = 0) := by
  have hsi : ¬ (1048576 : Int) < s.length := by omega
  by_cases h : (lexG s (qck s)).2.2 = 0
  · rw [qvi hsi h]
    refine ⟨⟨fun _ => h, fun _ => rfl⟩, fun _ => ⟨?_, rfl, rfl⟩⟩
    have hk : ∀ t ∈ (lexG s (qck s)).1, t.kind ≠ 0 := fun t ht => (qvt _ _ h t ht).2
    have ha : ∀ (l : List T) (n : Int), (∀ t ∈ l, t.kind ≠ 0) → qe1 (l ++ [⟨0, n, 0, []⟩]) = l := by
      intro l n hl
      induction l with
      | nil => simp [qe1]
      | cons t r ih => rw [List.cons_append, qe1, if_neg (hl t (by simp)), ih (fun u hu => hl u (by simp [hu]))]
    show ((newK ((lexG s (qck s)).1 ++ [⟨0, s.length, 0, []⟩])).l.drop 0).map bare = _
    rw [List.drop_zero]
    show (qe1 ((lexG s (qck s)).1 ++ [⟨0, s.length, 0, []⟩])).map bare = _
    rw [ha _ _ hk]; rfl
  · rw [qqh hsi h]
    exact ⟨⟨fun q => absurd q h, fun q => absurd q h⟩, fun q => absurd q h⟩

theorem qea {c : K} {b : T} {r : List T} (h : (remT c).map bare = b :: r) (he : c.err = 0) : bare (qw c) = b ∧ (remT (qs c)).map bare = r ∧ (qs c).err = 0 ∧ (qs c).nest = c.nest := by
  cases hq : remT c with
  | nil => rw [hq] at h; simp at h
  | cons t s =>
    rw [hq, List.map_cons, List.cons.injEq] at h
    obtain ⟨n1, n2, n3⟩ := qnu hq he
    exact ⟨by rw [(qfu hq he).1]; exact h.1, by rw [n1]; exact h.2, n2, n3⟩
theorem quv {c : K} {x : List UInt8} (h : bare (qw c) = tkn 5 x) (he : c.err = 0) : isK c x = true := by
  have h1 : (qw c).kind = 5 := congrArg T.kind h
  have h2 : (qw c).text = x := congrArg T.text h
  unfold isK qes
  rw [he, h1, h2]; simp
theorem qbdt (p : K × Option N) : toO (ofO p) = p := by
  obtain ⟨c, o⟩ := p
  cases o <;> rfl
theorem qun (rec : K → K × Option N) (w : List UInt8) : ∀ (ts : List (List UInt8)) (g : Nat) (c : K) (r : List T), ts.length < g → c.err = 0 → c.good → (remT c).map bare = ts.map (tkn 1) ++ tkn 5 w :: r →
    ∃ (d : K) (L : List T), d.err = 0 ∧ d.good ∧ d.nest = c.nest ∧ (remT d).map bare = r ∧ L.map T.text = ts ∧ toO (qbs rec w g c) = ((rec d).1, (rec d).2.map fun n => L.foldr lamN n)
  | ts, 0, _, _, h, _, _, _ => by omega
  | [], g + 1, c, r, _, he, hg, hw => by
    obtain ⟨h1, h2, h3, h4⟩ := qea hw he
    have hk : ¬ (qw c).kind = 1 := by rw [show (qw c).kind = 5 from congrArg T.kind h1]; decide
    refine ⟨qs c, [], h3, (qbm c).1 hg, h4, h2, rfl, ?_⟩
    rw [qbs, if_neg hk, qgb (quv h1 he), if_pos rfl, qbdt]
    simp
  | t :: ts, g + 1, c, r, hl, he, hg, hw => by
    obtain ⟨h1, h2, h3, h4⟩ := qea hw he
    have hk : (qw c).kind = 1 := congrArg T.kind h1
    obtain ⟨d, L, q1, q2, q3, q4, q5, q6⟩ := qun rec w ts g (qs c) r (by simp only [List.length_cons] at hl; omega) h3 ((qbm c).1 hg) h2
    refine ⟨d, qw c :: L, q1, q2, q3.trans h4, q4, by rw [List.map_cons, q5, show (qw c).text = t from congrArg T.text h1], ?_⟩
    rw [qbs, if_pos hk]
    unfold toO at q6 ⊢
    simp only [Prod.mk.injEq] at q6 ⊢
    refine ⟨q6.1, ?_⟩
    have h6 := q6.2
    cases hb : (qbs rec w g (qs c)).2.2 with
    | false =>
      rw [hb, if_neg noB] at h6
      rw [if_neg noB]
      cases hd : (rec d).2 with
      | none => rfl
      | some z => rw [hd] at h6; cases h6
    | true =>
      rw [hb, if_pos rfl] at h6
      rw [if_pos rfl]
      cases hd : (rec d).2 with
      | none => rw [hd] at h6; cases h6
      | some z =>
        rw [hd] at h6
        simp only [Option.map_some, Option.some.injEq] at h6 ⊢
        rw [h6]; rfl
theorem qbmw {f : Nat} {c : K} {ts : List (List UInt8)} {r : List T} (he : c.err = 0) (hg : c.good) (hn : c.nest < 200) (ht : ts ≠ []) (hw : (remT c).map bare = tkn 5 [92] :: (ts.map (tkn 1) ++ tkn 5 [45, 62] :: r)) :
    ∃ (d : K) (L : List T), d.err = 0 ∧ d.good ∧ d.nest = c.nest + 1 ∧ (remT d).map bare = r ∧ L.map T.text = ts ∧ qbp (f + 1) c = (qbv (qbp f d).1, (qbp f d).2.map fun n => L.foldr lamN n) := by
  have h0 : qe c = ({ c with nest := c.nest + 1 }, true) := by rw [qe, if_pos he, if_pos hn]
  have g1 := (qx c).1 hg
  rw [h0] at g1
  obtain ⟨h1, h2, h3, h4⟩ := qea (c := { c with nest := c.nest + 1 }) hw he
  have g2 := (qbm _).1 g1
  have hk : (qw (qs { c with nest := c.nest + 1 })).kind = 1 := by
    obtain ⟨t, ts', rfl⟩ : ∃ t ts', ts = t :: ts' := by cases ts with
      | nil => exact absurd rfl ht
      | cons t ts' => exact ⟨t, ts', rfl⟩
    exact congrArg T.kind (qea h2 h3).1
  have hl : ts.length < rest (qs { c with nest := c.nest + 1 }) + 1 := by
    have := congrArg List.length h2
    simp only [List.length_map, List.length_append, List.length_cons, qgg] at this
    omega
  obtain ⟨d, L, q1, q2, q3, q4, q5, q6⟩ := qun (qbp f) [45, 62] ts _ _ r hl h3 g2 h2
  refine ⟨d, L, q1, q2, by rw [q3, h4], q4, q5, ?_⟩
  have ho : qcf (qbp f) { c with nest := c.nest + 1 } = qbs (qbp f) [45, 62] (rest (qs { c with nest := c.nest + 1 }) + 1) (qs { c with nest := c.nest + 1 }) := by
    rw [qcf, qgz (quv h1 he), if_pos rfl, if_pos hk]
  rw [qbp, h0, if_pos rfl]
  show (qbv (qcf (qbp f) { c with nest := c.nest + 1 }).1, (toO (qcf (qbp f) { c with nest := c.nest + 1 })).2) = _
  rw [ho]
  rw [q6, show (qbs (qbp f) [45, 62] (rest (qs { c with nest := c.nest + 1 }) + 1) (qs { c with nest := c.nest + 1 })).1 = (qbp f d).1 from congrArg Prod.fst q6]
/-- Lambdas around a tree, without places. -/
def qbdv (ts : List (List UInt8)) (n : N) : N := ts.foldr (fun t n => .mk 25 0 0 t [n]) n
theorem qfn : ∀ (L : List T) (n : N), qu (L.foldr lamN n) = qbdv (L.map T.text) (qu n)
  | [], n => rfl
  | t :: L, n => by
    rw [List.foldr_cons, List.map_cons]
    show qu (lamN t (L.foldr lamN n)) = .mk 25 0 0 t.text [qbdv (L.map T.text) (qu n)]
    rw [← qfn L n, lamN, qu, qjd, qjd]
theorem qeu (c : K) : remT (qbv c) = remT c ∧ (qbv c).err = c.err := by
  unfold qbv
  split
  · split <;> exact ⟨rfl, rfl⟩
  · exact ⟨rfl, rfl⟩

def lamW : Nat → List T → List T
  | 0, r => r
  | n + 1, r => tkn 5 [92] :: tkn 1 [120] :: tkn 5 [45, 62] :: lamW n r
theorem q22 : ∀ (n f : Nat) (c : K) (r : List T) (x : N), c.err = 0 → c.good → (remT c).map bare = lamW n r → (qbp f c).2 = some x →
    ∃ (g : Nat) (d : K) (z : N), g + n = f ∧ d.err = 0 ∧ d.good ∧ d.nest = c.nest + n ∧ (remT d).map bare = r ∧ (qbp g d).2 = some z ∧ qu x = qbdv (List.replicate n [120]) (qu z) ∧ remT (qbp f c).1 = remT (qbp g d).1 ∧ (qbp f c).1.err = (qbp g d).1.err
  | 0, f, c, r, x, he, hg, hw, hx => ⟨f, c, x, rfl, he, hg, rfl, hw, hx, rfl, rfl, rfl⟩
  | n + 1, 0, c, r, x, he, hg, hw, hx => by cases hx
  | n + 1, f + 1, c, r, x, he, hg, hw, hx => by
    by_cases hn : c.nest < 200
    · obtain ⟨d, L, q1, q2, q3, q4, q5, q6⟩ := qbmw (f := f) (ts := [[120]]) (r := lamW n r) he hg hn (by decide) hw
      rw [q6] at hx ⊢
      cases hy : (qbp f d).2 with
      | none => rw [hy] at hx; cases hx
      | some y =>
        rw [hy] at hx
        simp only [Option.map_some, Option.some.injEq] at hx
        obtain ⟨g, e, z, p1, p2, p3, p4, p5, p6, p7, p8, p9⟩ := q22 n f d r y q1 q2 q4 hy
        refine ⟨g, e, z, by omega, p2, p3, by omega, p5, p6, ?_, ?_, ?_⟩
        · rw [← hx, qfn, q5, p7]; rfl
        · rw [(qeu _).1, p8]
        · rw [(qeu _).2, p9]
    · rw [qbp, qe, if_pos he, if_neg hn, if_neg noB] at hx; cases hx
/-! The texts. -/
def bT : Nat → List UInt8 → List UInt8
  | 0, s => s
  | n + 1, s => 92 :: 32 :: 120 :: 32 :: 45 :: 62 :: 32 :: bT n s
def xT : Nat → List UInt8 → List UInt8
  | 0, s => s
  | n + 1, s => 120 :: 32 :: xT n s
def cT (n : Nat) (s : List UInt8) : List UInt8 := 92 :: 32 :: xT n (45 :: 62 :: 32 :: s)
theorem q7r (u : List UInt8) : wl (92 :: 32 :: u) = qel (tkn 5 [92]) (wl u) := qjc q64 rfl u
theorem wl_x (u : List UInt8) : wl (120 :: 32 :: u) = qel (tkn 1 [120]) (wl u) := qjc qbke rfl u
theorem q79 (u : List UInt8) : wl (45 :: 62 :: 32 :: u) = qel (tkn 5 [45, 62]) (wl u) := qjc q50 rfl u
theorem qlj (k : Int) (d : List UInt8) : bare (tkn k d) = tkn k d := rfl
theorem q3x (s : List UInt8) : ∀ n, (wl (bT n s)).2 = (wl s).2 ∧ ((wl s).2 = 0 → (wl (bT n s)).1 = lamW n (wl s).1)
  | 0 => ⟨rfl, fun _ => rfl⟩
  | n + 1 => by
    obtain ⟨h1, h2⟩ := q3x s n
    rw [bT, q7r, wl_x, q79]
    by_cases h : (wl s).2 = 0
    · have h3 : (wl (bT n s)).2 = 0 := h1.trans h
      simp [qel, h3, h, h2 h, lamW, qlj]
    · have h3 : ¬ (wl (bT n s)).2 = 0 := by rw [h1]; exact h
      simp [qel, h3, h, h1]
theorem qbiw (s : List UInt8) : ∀ n, (wl (xT n s)).2 = (wl s).2 ∧ ((wl s).2 = 0 → (wl (xT n s)).1 = (List.replicate n [120]).map (tkn 1) ++ (wl s).1)
  | 0 => ⟨rfl, fun _ => rfl⟩
  | n + 1 => by
    obtain ⟨h1, h2⟩ := qbiw s n
    rw [xT, wl_x]
    by_cases h : (wl s).2 = 0
    · have h3 : (wl (xT n s)).2 = 0 := h1.trans h
      simp [qel, h3, h, h2 h, List.replicate_succ, qlj]
    · have h3 : ¬ (wl (xT n s)).2 = 0 := by rw [h1]; exact h
      simp [qel, h3, h, h1]
theorem qbq0 (s : List UInt8) (n : Nat) : (wl (cT n s)).2 = (wl s).2 ∧ ((wl s).2 = 0 → (wl (cT n s)).1 = tkn 5 [92] :: ((List.replicate n [120]).map (tkn 1) ++ tkn 5 [45, 62] :: (wl s).1)) := by
  obtain ⟨h1, h2⟩ := qbiw (45 :: 62 :: 32 :: s) n
  rw [cT, q7r]
  rw [q79] at h1 h2
  by_cases h : (wl s).2 = 0
  · have h4 : (qel (tkn 5 [45, 62]) (wl s)).2 = 0 := by simp [qel, h]
    have h3 : (wl (xT n (45 :: 62 :: 32 :: s))).2 = 0 := h1.trans h4
    have h5 := h2 h4
    have h6 : (qel (tkn 5 [45, 62]) (wl s)).1 = tkn 5 [45, 62] :: (wl s).1 := by simp [qel, h, qlj]
    rw [h6] at h5
    refine ⟨by simp [qel, h3, h], fun _ => ?_⟩
    simp only [qel, h3, if_true, h5, qlj]
  · have h4 : (qel (tkn 5 [45, 62]) (wl s)).2 = (wl s).2 := by simp [qel, h]
    have h3 : (wl (xT n (45 :: 62 :: 32 :: s))).2 = (wl s).2 := h1.trans h4
    refine ⟨by simp [qel, h3, h], fun q => absurd q h⟩
theorem qtn (s : List UInt8) : ∀ n, (bT n s).length = 7 * n + s.length
  | 0 => by simp [bT]
  | n + 1 => by simp only [bT, List.length_cons, qtn s n]; omega
theorem qr4 (s : List UInt8) : ∀ n, (xT n s).length = 2 * n + s.length
  | 0 => by simp [xT]
  | n + 1 => by simp only [xT, List.length_cons, qr4 s n]; omega
theorem qqw (r : List T) : ∀ n, (lamW n r).length = 3 * n + r.length
  | 0 => by simp [lamW]
  | n + 1 => by simp only [lamW, List.length_cons, qqw r n]; omega
/-- THE LAW: a lambda of several names. -/
theorem q6t {s : List UInt8} {n : Nat} (hs : s.length ≤ 1000) (hn : 1 ≤ n) (hn5 : n ≤ 5) (h : (expK 2 (bT n s)).2.2 = 0) : (expK 10 (cT n s)).2.2 = 0 ∧ NS (expK 2 (bT n s)).1 (expK 10 (cT n s)).1 := by
  obtain ⟨hl, x, hx, hd, hp, he⟩ := qto (Nat.le_refl _) h
  have hb := qvv (s := bT n s) (by rw [qtn]; omega)
  have hcl : (cT n s).length ≤ 1048576 := by simp only [cT, List.length_cons, qr4]; omega
  have hc := qvv (s := cT n s) hcl
  have h0 : (wl s).2 = 0 := by rw [← (q3x s n).1]; exact hb.1.1 hl
  have hl' : (lexV (cT n s)).2.2 = 0 := hc.1.2 ((qbq0 s n).1.trans h0)
  obtain ⟨b1, b2, b3⟩ := hb.2 hl
  obtain ⟨c1, c2, c3⟩ := hc.2 hl'
  rw [(q3x s n).2 h0] at b1
  rw [(qbq0 s n).2 h0] at c1
  have gb := qh8 (qg9 (bT n s)).1
  have gc := qh8 (qg9 (cT n s)).1
  have lb : rest (newK (lexV (bT n s)).1) = 3 * n + (wl s).1.length := by
    rw [← qgg, ← qqw, ← b1, List.length_map]
  have lc : rest (newK (lexV (cT n s)).1) = n + 2 + (wl s).1.length := by
    have := congrArg List.length c1
    simp only [List.length_map, List.length_cons, List.length_append, List.length_replicate, qgg] at this
    omega
  obtain ⟨g, d, z, p1, p2, p3, p4, p5, p6, p7, p8, p9⟩ := q22 n _ _ _ x b3 gb b1 hx
  obtain ⟨d', L, q1, q2, q3, q4, q5, q6⟩ := qbmw (f := rest (newK (lexV (cT n s)).1) + 9) c3 gc (by rw [c2]; decide) (by cases n with
    | zero => omega
    | succ n => simp [List.replicate_succ]) c1
  have hsm : Sm (1 - (n : Int)) [] d d' := ⟨p3, q2, by rw [List.append_nil, q4, p5], by rw [q3, c2, p4, b2]; omega, p2, q1⟩
  obtain ⟨e1, e2⟩ := qsn hd
  rcases qgr (.inl rfl) g (rest (newK (lexV (cT n s)).1) + 9) (by omega) d d' hsm z p6 with ⟨r1, z', r2, r3, r4⟩ | ⟨r1, r2⟩
  · have hx' : (qbp (rest (newK (lexV (cT n s)).1) + 10) (newK (lexV (cT n s)).1)).2 = some (L.foldr lamN z') := by
      rw [q6, r2]; rfl
    have hns : NS x (L.foldr lamN z') := by
      show qu x = qu _
      rw [qfn, q5, p7, show qu z = qu z' from r3]
    have hd' : (qe6 (qbp (rest (newK (lexV (cT n s)).1) + 10) (newK (lexV (cT n s)).1)).1).2 = 0 := by
      rw [q6]
      refine qtl ((qeu _).2.trans r4.e') ?_
      rw [(qeu _).1]
      have := r4.w
      rw [← p8, e2] at this
      simpa using this
    have hk := q0s hl' hx' hd' (by rw [← hns.dep]; exact hp)
    rw [hk, he]; exact ⟨rfl, hns⟩
  · have := r2.2; omega
end Go.Proofs.Ytmekebfgmjaenaa

/- a binding with parameters is one with lambdas for them: of whole texts -/
namespace Go.Proofs.Ytmekebfgmjaenaa
open Go Go.RowKit Go.V
set_option linter.unusedVariables false
set_option linter.unusedSimpArgs false
set_option linter.unusedSectionVars false

/-- Rows in braces: the steps do not matter, where there are enough. -/
theorem qhy {rd : K → R3} (hm : ∀ c, Mon c (rd c).1) : ∀ (f g : Nat) (c : K) (a : List N), rest c < f → rest c < g → qbe rd f c a = qbe rd g c a
  | 0, _, _, _, h, _ => by omega
  | _ + 1, 0, _, _, _, h => by omega
  | f + 1, g + 1, c, a, hf, hg => by
    rw [qbe, qbe]
    cases hy : (rd c).2.2 with
    | false => rw [if_neg noB, if_neg noB]
    | true =>
      rw [if_pos rfl, if_pos rfl]
      cases ht : (qp (rd c).1 [59]).2 with
      | false => simp only [Bool.false_and, if_neg noB]
      | true =>
        have h1 := qdd ht
        have h2 := (hm c).2.1
        simp only [Bool.true_and]
        rw [qhy hm f g _ _ (by omega) (by omega)]
section
variable {δ : Int} {tl : List T} (hs : Stop tl)
include hs
/-- The first thing of a row by itself. -/
theorem qvf {rd rd' : K → R3} (hm : ∀ c, Mon c (rd c).1) (hm' : ∀ c, Mon c (rd' c).1) (hd : ∀ c c', Sm δ tl c c' → qhi δ tl c (rd c) (rd' c')) (hend : ∀ c, remT c = [] → (rd c).2.2 = false) (c c' : K) (a a' : List N) (h : qhi δ tl c (rd c) (rd' c')) (ha : a.map qu = a'.map qu) : qbfs δ tl c (qbe rd (rest c + 1) c a) (qbe rd' (rest c' + 1) c' a') := fun hp => by
  rw [qbe] at hp ⊢
  rw [qbe]
  cases hy : (rd c).2.2 with
  | false => rw [hy, if_neg noB] at hp; cases hp
  | true =>
    rw [hy, if_pos rfl] at hp
    rw [if_pos rfl]
    rcases qjr (rec := fun c => (c, none)) (rec' := fun c => (c, none)) hs (fun c c' _ x hx => by cases hx) h hy with ⟨q1, q2, q3, q4⟩ | ⟨q1, q2⟩
    · rw [q2, if_pos rfl]
      have hl := NS.snoc ha q3
      by_cases hn : remT (rd c).1 = []
      · rw [qe7 (qi4 hn _)] at hp
        simp only [Bool.false_and, if_neg noB, qvu hn] at hp
        cases hp
      · have h1 := fun x => Sm.isN (rec := fun c => (c, none)) (rec' := fun c => (c, none)) hs (fun c c' _ x hx => by cases hx) q4 hn x
        cases ht : isK (rd c).1 [59] with
        | false =>
          rw [qe7 ht] at hp ⊢
          rw [qe7 ((h1 _).trans ht)]
          simp only [Bool.false_and, if_neg noB] at hp ⊢
          obtain ⟨w1, w2, w3⟩ := q4.want hp
          exact .inl ⟨w3.trans q1, w1, hl, w2⟩
        | true =>
          obtain ⟨g1, g2, g3⟩ := q4.isT ht
          have l1 : rest (qs (rd c).1) < rest c := by have := qbh (qcd ht); have := (hm c).2.1; omega
          have l2 : rest (qs (rd' c').1) < rest c' := by have := qbh (qcd g1); have := (hm' c').2.1; omega
          rw [qgz ht] at hp ⊢
          rw [qgz g1]
          simp only [Bool.true_and] at hp ⊢
          by_cases hn2 : remT (qs (rd c).1) = []
          · exfalso
            rw [qi4 hn2] at hp
            simp only [Bool.not_false, if_true] at hp
            cases hf : rest c with
            | zero => rw [hf] at hp; cases hp
            | succ f => rw [hf, qbe, hend _ hn2, if_neg noB] at hp; cases hp
          · rw [Sm.isN (rec := fun c => (c, none)) (rec' := fun c => (c, none)) hs (fun c c' _ x hx => by cases hx) g2 hn2 [125]]
            cases hk : isK (qs (rd c).1) [125] with
            | true =>
              rw [hk] at hp
              simp only [Bool.not_true, if_neg noB] at hp ⊢
              obtain ⟨w1, w2, w3⟩ := g2.want hp
              exact .inl ⟨by rw [w3, g3, q1], w1, hl, w2⟩
            | false =>
              rw [hk] at hp
              simp only [Bool.not_false, if_true] at hp ⊢
              have hle := g2.le
              rw [qhy hm _ (rest (qs (rd c).1) + 1) _ _ l1 (by omega)] at hp ⊢
              rw [qhy hm' _ (rest (qs (rd' c').1) + 1) _ _ l2 (by omega)]
              rcases qg2 hs hd hend (rest (qs (rd c).1) + 1) (rest (qs (rd' c').1) + 1) (by omega) _ _ _ _ g2 hl hp with ⟨r1, r2⟩ | r
              · exact .inl ⟨by rw [r1, g3, q1], r2⟩
              · exact .inr r
    · rw [q1, if_neg noB]; exact .inr ⟨rfl, q2⟩
end
/-- A binding of a name, with parameters. -/
theorem q2h (rec : K → K × Option N) (n : List UInt8) (ts : List (List UInt8)) (c : K) (r : List T) (he : c.err = 0) (hg : c.good) (hw : (remT c).map bare = tkn 1 n :: (ts.map (tkn 1) ++ tkn 5 [61] :: r)) :
    ∃ (d : K) (L : List T) (k : T), d.err = 0 ∧ d.good ∧ d.nest = c.nest ∧ (remT d).map bare = r ∧ L.map T.text = ts ∧ k.text = n ∧ qbl rec c = ((rec d).1, (rec d).2.map fun m => qn7 31 k (L.foldr lamN m)) := by
  obtain ⟨h1, h2, h3, h4⟩ := qea hw he
  have hk1 : (qw c).kind = 1 := congrArg T.kind h1
  have hk : kindK c 1 = (qs c, true) := qkl he hk1
  have ht : isK (qs c) [58, 58] = false := by
    cases ts with
    | nil =>
      obtain ⟨p1, _⟩ := qea h2 h3
      unfold isK qes
      rw [show (qw (qs c)).text = [61] from congrArg T.text p1]; simp
    | cons t ts' =>
      obtain ⟨p1, _⟩ := qea h2 h3
      unfold isK qes
      rw [show (qw (qs c)).kind = 1 from congrArg T.kind p1]; simp
  have hl : ts.length < rest (qs c) + 1 := by
    have := congrArg List.length h2
    simp only [List.length_map, List.length_append, List.length_cons, qgg] at this
    omega
  obtain ⟨d, L, q1, q2, q3, q4, q5, q6⟩ := qun rec [61] ts (rest (qs c) + 1) (qs c) r hl h3 ((qbm c).1 hg) h2
  refine ⟨d, L, qw c, q1, q2, q3.trans h4, q4, q5, congrArg T.text h1, ?_⟩
  rw [qbl, hk, if_pos rfl, qe7 ht, if_neg noB, q6, qnx he hk1]
  rw [show (qbs rec [61] (rest (qs c) + 1) (qs c)).1 = (rec d).1 from congrArg Prod.fst q6]
  cases (rec d).2 <;> rfl
/-- let and its first binding. -/
theorem qbkb {F : Nat} {c : K} {r : List T} (he : c.err = 0) (hg : c.good) (hn : c.nest < 200) (hw : (remT c).map bare = tkn 4 [108, 101, 116] :: tkn 5 [123] :: r) :
    ∃ (d : K) (p : Int), d.err = 0 ∧ d.good ∧ d.nest = c.nest + 1 ∧ (remT d).map bare = r ∧ qbp (F + 1) c = (qbv (letB (qbp F) p (qbe (fun c => ofO (qbl (qbp F) c)) (rest d + 1) d [])).1, (toO (letB (qbp F) p (qbe (fun c => ofO (qbl (qbp F) c)) (rest d + 1) d []))).2) := by
  have h0 : qe c = ({ c with nest := c.nest + 1 }, true) := by rw [qe, if_pos he, if_pos hn]
  have g1 := (qx c).1 hg
  rw [h0] at g1
  obtain ⟨h1, h2, h3, h4⟩ := qea (c := { c with nest := c.nest + 1 }) hw he
  have g2 := (qbm _).1 g1
  obtain ⟨i1, i2, i3, i4⟩ := qea h2 h3
  have hk : (qw { c with nest := c.nest + 1 }).kind = 4 := congrArg T.kind h1
  have hx : (qw { c with nest := c.nest + 1 }).text = [108, 101, 116] := congrArg T.text h1
  have t1 : isK { c with nest := c.nest + 1 } [92] = false := by unfold isK qes; rw [hx]; simp
  have t2 : isK { c with nest := c.nest + 1 } [108, 101, 116] = true := by
    unfold isK qes
    rw [hk, hx]; simp [he]
  refine ⟨qs (qs { c with nest := c.nest + 1 }), (qw { c with nest := c.nest + 1 }).pos, i3, (qbm _).1 g2, by rw [i4, h4], i2, ?_⟩
  rw [qbp, h0, if_pos rfl]
  show (qbv (qcf (qbp F) { c with nest := c.nest + 1 }).1, (toO (qcf (qbp F) { c with nest := c.nest + 1 })).2) = _
  rw [qcf, qe7 t1, if_neg noB, qgz t2, if_pos rfl, qfq, qbj, qgb (quv i1 h3), if_pos rfl]
end Go.Proofs.Ytmekebfgmjaenaa

/- a binding with parameters: the law of whole texts -/
namespace Go.Proofs.Ytmekebfgmjaenaa
open Go Go.RowKit Go.V
set_option linter.unusedVariables false
set_option linter.unusedSimpArgs false

def mT (n : Nat) (u : List UInt8) : List UInt8 := 108 :: 101 :: 116 :: 32 :: 123 :: 32 :: 102 :: 32 :: 61 :: 32 :: bT n u
def lT (n : Nat) (u : List UInt8) : List UInt8 := 108 :: 101 :: 116 :: 32 :: 123 :: 32 :: 102 :: 32 :: xT n (61 :: 32 :: u)
theorem qb2 (t : T) (r : List T × Int) : (qel t r).2 = r.2 ∧ (r.2 = 0 → (qel t r).1 = bare t :: r.1) := by
  unfold qel
  split
  · rename_i h; exact ⟨h.symm, fun _ => rfl⟩
  · rename_i h; exact ⟨rfl, fun q => absurd q h⟩
theorem q7w (u : List UInt8) : wl (108 :: 101 :: 116 :: 32 :: u) = qel (tkn 4 [108, 101, 116]) (wl u) := qjc q5v rfl u
theorem q7z (u : List UInt8) : wl (123 :: 32 :: u) = qel (tkn 5 [123]) (wl u) := qjc q30 rfl u
theorem wl_f (u : List UInt8) : wl (102 :: 32 :: u) = qel (tkn 1 [102]) (wl u) := qjc qbmq rfl u
theorem qbl2 (u : List UInt8) : wl (61 :: 32 :: u) = qel (tkn 5 [61]) (wl u) := qjc q9u rfl u
theorem qbn5 (n : Nat) (u : List UInt8) : (wl (mT n u)).2 = (wl u).2 ∧ ((wl u).2 = 0 → (wl (mT n u)).1 = tkn 4 [108, 101, 116] :: tkn 5 [123] :: tkn 1 [102] :: (([] : List (List UInt8)).map (tkn 1) ++ tkn 5 [61] :: lamW n (wl u).1)) := by
  obtain ⟨h1, h2⟩ := q3x u n
  rw [mT, q7w, q7z, wl_f, qbl2]
  refine ⟨by rw [(qb2 _ _).1, (qb2 _ _).1, (qb2 _ _).1, (qb2 _ _).1, h1], fun h => ?_⟩
  have h0 := h1.trans h
  rw [(qb2 _ _).2 (by rw [(qb2 _ _).1, (qb2 _ _).1, (qb2 _ _).1, h0]), (qb2 _ _).2 (by rw [(qb2 _ _).1, (qb2 _ _).1, h0]), (qb2 _ _).2 (by rw [(qb2 _ _).1, h0]), (qb2 _ _).2 h0, h2 h]
  rfl
theorem qbl8 (n : Nat) (u : List UInt8) : (wl (lT n u)).2 = (wl u).2 ∧ ((wl u).2 = 0 → (wl (lT n u)).1 = tkn 4 [108, 101, 116] :: tkn 5 [123] :: tkn 1 [102] :: ((List.replicate n [120]).map (tkn 1) ++ tkn 5 [61] :: (wl u).1)) := by
  obtain ⟨h1, h2⟩ := qbiw (61 :: 32 :: u) n
  rw [qbl2] at h1 h2
  rw [(qb2 _ _).1] at h1 h2
  rw [lT, q7w, q7z, wl_f]
  refine ⟨by rw [(qb2 _ _).1, (qb2 _ _).1, (qb2 _ _).1, h1], fun h => ?_⟩
  have h0 := h1.trans h
  rw [(qb2 _ _).2 (by rw [(qb2 _ _).1, (qb2 _ _).1, h0]), (qb2 _ _).2 (by rw [(qb2 _ _).1, h0]), (qb2 _ _).2 h0, h2 h, (qb2 _ _).2 h]
  rfl
theorem qsy {f : Nat} {c : K} {x : N} (he : c.err = 0) (hg : c.good) (h : (qbp f c).2 = some x) : (qbp f c).1.nest = c.nest ∧ (qbp f c).1.err = 0 := by
  rcases qgr (δ := 0) (tl := []) (.inl rfl) f f (Nat.le_refl _) c c ⟨hg, hg, by rw [List.append_nil], by omega, he, he⟩ x h with ⟨r1, _, _, _, r4⟩ | ⟨_, r2⟩
  · exact ⟨r1, r4.e⟩
  · have := r2.2; omega
/-- The first binding, side by side. -/
theorem qx9 {n F F' : Nat} {d d' : K} {W : List T} (hF : F ≤ F' + n) (he : d.err = 0) (hg : d.good) (he' : d'.err = 0) (hg' : d'.good) (hn : d'.nest = d.nest) (hw : (remT d).map bare = tkn 1 [102] :: (([] : List (List UInt8)).map (tkn 1) ++ tkn 5 [61] :: lamW n W)) (hw' : (remT d').map bare = tkn 1 [102] :: ((List.replicate n [120]).map (tkn 1) ++ tkn 5 [61] :: W)) :
    Side NS 0 [] d (qbl (qbp F) d) (qbl (qbp F') d') := by
  intro y hy
  obtain ⟨e, L, k, q1, q2, q3, q4, q5, q6, q7⟩ := q2h (qbp F) [102] [] d _ he hg hw
  obtain ⟨e', L', k', u1, u2, u3, u4, u5, u6, u7⟩ := q2h (qbp F') [102] (List.replicate n [120]) d' W he' hg' hw'
  rw [q7] at hy ⊢
  rw [u7]
  cases hz : (qbp F e).2 with
  | none => rw [hz] at hy; cases hy
  | some z =>
    rw [hz] at hy
    simp only [Option.map_some, Option.some.injEq] at hy
    obtain ⟨g, b, z0, p1, p2, p3, p4, p5, p6, p7, p8, p9⟩ := q22 n F e W z q1 q2 q4 hz
    have hsm : Sm (-(n : Int)) [] b e' := ⟨p3, u2, by rw [List.append_nil, u4, p5], by rw [u3, hn, p4, q3]; omega, p2, u1⟩
    rcases qgr (.inl rfl) g F' (by omega) b e' hsm z0 p6 with ⟨r1, z', r2, r3, r4⟩ | ⟨r1, r2⟩
    · obtain ⟨s1, s2⟩ := qsy q1 q2 hz
      obtain ⟨v1, v2⟩ := qsy u1 u2 r2
      have hw2 := r4.w
      rw [← p8] at hw2
      refine .inl ⟨s1.trans q3, qn7 31 k' (L'.foldr lamN z'), by rw [r2]; rfl, ?_, ⟨(qey F e).1 q2, (qey F' e').1 u2, hw2, by simp only; rw [v1, s1, u3, q3, hn]; omega, s2, v2⟩⟩
      rw [← hy]
      refine NS.mk rfl (q6.trans u6.symm) (NS.kids ?_)
      show qu _ = qu _
      rw [qfn, qfn, q5, u5, p7, show qu z0 = qu z' from r3]; rfl
    · have := r2.2; omega
/-- THE LAW: a binding with parameters. -/
theorem q6z {u : List UInt8} {n : Nat} (hs : u.length ≤ 2000) (hn5 : n ≤ 5) (h : (expK 2 (mT n u)).2.2 = 0) : (expK 20 (lT n u)).2.2 = 0 ∧ NS (expK 2 (mT n u)).1 (expK 20 (lT n u)).1 := by
  obtain ⟨hl, x, hx, hd, hp, he⟩ := qto (Nat.le_refl _) h
  have hb := qvv (s := mT n u) (by simp only [mT, List.length_cons, qtn]; omega)
  have hc := qvv (s := lT n u) (by simp only [lT, List.length_cons, qr4]; omega)
  have h0 : (wl u).2 = 0 := by rw [← (qbn5 n u).1]; exact hb.1.1 hl
  have hl' : (lexV (lT n u)).2.2 = 0 := hc.1.2 ((qbl8 n u).1.trans h0)
  obtain ⟨b1, b2, b3⟩ := hb.2 hl
  obtain ⟨c1, c2, c3⟩ := hc.2 hl'
  rw [(qbn5 n u).2 h0] at b1
  rw [(qbl8 n u).2 h0] at c1
  have gb := qh8 (qg9 (mT n u)).1
  have gc := qh8 (qg9 (lT n u)).1
  have lb : rest (newK (lexV (mT n u)).1) = 4 + 3 * n + (wl u).1.length := by
    have := congrArg List.length b1
    simp only [List.length_map, List.length_cons, List.length_append, List.map_nil, List.length_nil, qqw, qgg] at this
    omega
  have lc : rest (newK (lexV (lT n u)).1) = 4 + n + (wl u).1.length := by
    have := congrArg List.length c1
    simp only [List.length_map, List.length_cons, List.length_append, List.length_replicate, qgg] at this
    omega
  obtain ⟨d, p, q1, q2, q3, q4, q5⟩ := qbkb (F := rest (newK (lexV (mT n u)).1) + 1) b3 gb (by rw [b2]; decide) b1
  obtain ⟨d', p', u1, u2, u3, u4, u5⟩ := qbkb (F := rest (newK (lexV (lT n u)).1) + 19) c3 gc (by rw [c2]; decide) c1
  generalize hF : rest (newK (lexV (mT n u)).1) + 1 = F at *
  generalize hF' : rest (newK (lexV (lT n u)).1) + 19 = F' at *
  have hle : F ≤ F' := by omega
  have hst : Stop [] := .inl rfl
  have hr : ∀ c c', Sm 0 [] c c' → Side NS 0 [] c (qbp F c) (qbp F' c') := qgr hst F F' hle
  have hit := qvf hst (rd := fun c => ofO (qbl (qbp F) c)) (rd' := fun c => ofO (qbl (qbp F') c)) (fun c => qet (qey F) c) (fun c => qet (qey F') c) (fun c c' h => qit hst hr (qk2 hst hr c c' h)) (fun c hn => by
    show (qbl (qbp F) c).2.isSome = false
    rw [qbl, qw5 hn (by decide), if_neg noB]; rfl) d d' [] [] (qit hst hr (qx9 (by omega) q1 q2 u1 u2 (by rw [q3, u3, b2, c2]) q4 u4)) rfl
  have h3 : qhi 0 [] d (letB (qbp F) p (qbe (fun c => ofO (qbl (qbp F) c)) (rest d + 1) d [])) (letB (qbp F') p' (qbe (fun c => ofO (qbl (qbp F') c)) (rest d' + 1) d' [])) := by
    rw [letB, letB]
    cases hq : (qbe (fun c => ofO (qbl (qbp F) c)) (rest d + 1) d []).2.2 with
    | false => rw [if_neg noB]; exact qby hst hr fun q => by cases q
    | true =>
      rw [if_pos rfl]
      rcases hit hq with ⟨k1, k2, k3, k4⟩ | ⟨k1, k2⟩
      · rw [k2, if_pos rfl]
        refine qtg hst hr _ d _ _ _ _ _ _ k3 fun hw => ?_
        obtain ⟨w1, w2, w3⟩ := k4.want hw
        exact ⟨w1, w2, w3.trans k1⟩
      · rw [k1, if_neg noB]; exact qby hst hr fun _ => .inr ⟨rfl, k2⟩
  rw [show rest (newK (lexV (mT n u)).1) + 2 = F + 1 by omega, q5] at hx hd
  rcases h3 x hx with ⟨r1, x', r2, r3, r4⟩ | ⟨r1, r2⟩
  · have e5 : qbp (rest (newK (lexV (lT n u)).1) + 20) (newK (lexV (lT n u)).1) = _ := (congrArg (fun f => qbp f (newK (lexV (lT n u)).1)) (by omega : rest (newK (lexV (lT n u)).1) + 20 = F' + 1)).trans u5
    have hx' : (qbp (rest (newK (lexV (lT n u)).1) + 20) (newK (lexV (lT n u)).1)).2 = some x' := by rw [e5]; exact r2
    obtain ⟨e1, e2⟩ := qsn hd
    rw [(qeu _).1] at e2
    have hd' : (qe6 (qbp (rest (newK (lexV (lT n u)).1) + 20) (newK (lexV (lT n u)).1)).1).2 = 0 := by
      rw [e5]
      refine qtl ((qeu _).2.trans r4.e') ?_
      rw [(qeu _).1]
      have h8 := r4.w
      rw [show remT (toO (letB (qbp F) p (qbe (fun c => ofO (qbl (qbp F) c)) (rest d + 1) d []))).1 = [] from e2] at h8
      exact List.map_eq_nil_iff.1 h8
    have hk := q0s hl' hx' hd' (by rw [← r3.dep]; exact hp)
    rw [hk, he]; exact ⟨rfl, r3⟩
  · have := r2.2; omega

/-- The names; the lambdas: what the loop has built. -/
def aB : Nat → List UInt8
  | 0 => []
  | n + 1 => aB n ++ [32, 120]
def bB : Nat → List UInt8
  | 0 => []
  | n + 1 => bB n ++ [92, 32, 120, 32, 45, 62, 32]
theorem q07 : ∀ (n : Nat) (u : List UInt8), aB n ++ 32 :: u = 32 :: xT n u
  | 0, u => rfl
  | n + 1, u => by
    have h : ∀ (n : Nat) (u : List UInt8), xT (n + 1) u = xT n (120 :: 32 :: u) := by
      intro n
      induction n with
      | zero => intro u; rfl
      | succ n ih => intro u; rw [xT, ih, xT]
    rw [aB, List.append_assoc, List.cons_append, List.cons_append, List.nil_append, q07 n, h]
theorem qzj : ∀ (n : Nat) (u : List UInt8), bB n ++ u = bT n u
  | 0, u => rfl
  | n + 1, u => by
    have h : ∀ (n : Nat) (u : List UInt8), bT (n + 1) u = bT n (92 :: 32 :: 120 :: 32 :: 45 :: 62 :: 32 :: u) := by
      intro n
      induction n with
      | zero => intro u; rfl
      | succ n ih => intro u; rw [bT, ih, bT]
    rw [bB, List.append_assoc, qzj n, h]; rfl
theorem q7v : ∀ n, (aB n).length = 2 * n
  | 0 => rfl
  | n + 1 => by rw [aB, List.length_append, q7v n]; simp; omega
theorem q7u : ∀ n, (bB n).length = 7 * n
  | 0 => rfl
  | n + 1 => by rw [bB, List.length_append, q7u n]; simp; omega
def qix : List UInt8 := [32, 125, 32, 105, 110, 32, 49]
theorem qbkp (n : Nat) (s : List UInt8) : bB n ++ s = bT n s := qzj n s
theorem qbq8 (n : Nat) (s : List UInt8) : (([92] ++ aB n) ++ [32, 45, 62, 32]) ++ s = cT n s := by
  rw [List.append_assoc, List.append_assoc, cT]
  exact congrArg (92 :: ·) (q07 n _)
theorem qblo (n : Nat) (s : List UInt8) : ((([108, 101, 116, 32, 123, 32, 102] ++ aB n) ++ [32, 61, 32]) ++ s) ++ qix = lT n (s ++ qix) := by
  rw [List.append_assoc, List.append_assoc, List.append_assoc, lT]
  exact congrArg (fun z => 108 :: 101 :: 116 :: 32 :: 123 :: 32 :: 102 :: z) (q07 n _)
theorem qbmf (n : Nat) (s : List UInt8) : (([108, 101, 116, 32, 123, 32, 102, 32, 61, 32] ++ bB n) ++ s) ++ qix = mT n (s ++ qix) := by
  rw [List.append_assoc, List.append_assoc, mT]
  exact congrArg (fun z => 108 :: 101 :: 116 :: 32 :: 123 :: 32 :: 102 :: 32 :: 61 :: 32 :: z) (qzj n _)
/-- What the function answers with. -/
theorem qyf {s : List UInt8} {n : Nat} (hs : s.length ≤ 1000) (hn : 1 ≤ n) (hn5 : n ≤ 5) :
    ((expK 2 (bT n s)).2.2 = 0 → (expK 10 (cT n s)).2.2 = 0 ∧ qof (expK 2 (bT n s)).1 (expK 10 (cT n s)).1 = true) ∧ ((expK 2 (mT n (s ++ qix))).2.2 = 0 → (expK 20 (lT n (s ++ qix))).2.2 = 0 ∧ qof (expK 20 (lT n (s ++ qix))).1 (expK 2 (mT n (s ++ qix))).1 = true) := by
  refine ⟨fun h => ?_, fun h => ?_⟩
  · obtain ⟨h1, h2⟩ := q6t hs hn hn5 h
    exact ⟨h1, q2j _ _ h2⟩
  · obtain ⟨h1, h2⟩ := q6z (by rw [List.length_append]; simp [qix]; omega) hn5 h
    exact ⟨h1, q2j _ _ (Eq.symm h2)⟩
end Go.Proofs.Ytmekebfgmjaenaa
