/- A text of this proof. -/
import Derived.Test.YtfpobiheiloamaaOar

/- texts of terms: unlike terms have unlike texts -/
namespace Go.Proofs.Ytfpobiheiloamaa
open Go Go.RowKit Go.V
set_option linter.unusedVariables false
set_option linter.unusedSimpArgs false

/-! digits -/
def valN (s : List UInt8) : Nat := s.foldl (fun a c => 10 * a + (c.toNat - 48)) 0
theorem qks : ∀ (n u : Nat), u ≤ n → valN (digN u) = u := by
 intro n
 induction n with
 | zero => intro u hu; have : u = 0 := by omega
           subst this; rw [qcg (by omega)]; decide
 | succ n ih =>
   intro u hu
   by_cases h : u < 10
   ·rw [qcg h]
    have : (UInt8.ofNat (48 + u)).toNat = 48 + u := by rw [UInt8.toNat_ofNat']; omega
    simp only [valN, List.foldl_cons, List.foldl_nil, this]; omega
   ·rw [qg8 h]
    have h1 := ih (u / 10) (by omega)
    have : (UInt8.ofNat (48 + u % 10)).toNat = 48 + u % 10 := by rw [UInt8.toNat_ofNat']; omega
    simp only [valN, List.foldl_append, List.foldl_cons, List.foldl_nil, this] at h1 ⊢
    rw [h1]; omega
theorem qnu {u v : Nat} (h : digN u = digN v) : u = v := by rw [← qks u u (Nat.le_refl _), h, qks v v (Nat.le_refl _)]
def qsx (c : UInt8) : Bool := decide (48 ≤ c.toNat) && decide (c.toNat ≤ 57)
theorem qnb : ∀ (n u : Nat), u ≤ n → (digN u).all qsx = true := by
 intro n
 induction n with
 | zero => intro u hu; have : u = 0 := by omega
           subst this; rw [qcg (by omega)]; decide
 | succ n ih =>
   intro u hu
   by_cases h : u < 10
   ·rw [qcg h]
    have : (UInt8.ofNat (48 + u)).toNat = 48 + u := by rw [UInt8.toNat_ofNat']; omega
    simp only [List.all_cons, List.all_nil, qsx, this, Bool.and_true, Bool.and_eq_true, decide_eq_true_eq]; omega
   ·rw [qg8 h, List.all_append, ih (u / 10) (by omega)]
    have : (UInt8.ofNat (48 + u % 10)).toNat = 48 + u % 10 := by rw [UInt8.toNat_ofNat']; omega
    simp only [List.all_cons, List.all_nil, qsx, this, Bool.and_true, Bool.true_and, Bool.and_eq_true, decide_eq_true_eq]; omega
theorem qtu {a b : Int} (ha : 0 ≤ a) (hb : 0 ≤ b) (h : digI a = digI b) : a = b := by
 rw [digI, if_neg (by omega), digI, if_neg (by omega)] at h
 have := qnu h
 omega
theorem qvl {a b : Int} (ha : 0 ≤ a) (hb : 0 ≤ b) (h : ltrI a = ltrI b) : a = b := by
 have ea : ltrI a = if a < 26 then [UInt8.ofNat (97 + a.toNat)] else UInt8.ofNat (97 + a.toNat % 26) :: digN (a.toNat / 26) := by rw [ltrI, if_neg (by omega)]
 have eb : ltrI b = if b < 26 then [UInt8.ofNat (97 + b.toNat)] else UInt8.ofNat (97 + b.toNat % 26) :: digN (b.toNat / 26) := by rw [ltrI, if_neg (by omega)]
 rw [ea, eb] at h
 have key : ∀ x y : Nat, x < 26 → y < 26 → UInt8.ofNat (97 + x) = UInt8.ofNat (97 + y) → x = y := fun x y hx hy e => by
  have := congrArg UInt8.toNat e
  rw [UInt8.toNat_ofNat', UInt8.toNat_ofNat'] at this
  omega
 split at h <;> split at h
 ·have := key _ _ (by omega) (by omega) (List.cons.inj h).1
  omega
 ·have := congrArg List.length h
  have h2 := qjs (b.toNat / 26)
  simp only [List.length_cons, List.length_nil] at this; omega
 ·have := congrArg List.length h
  have h2 := qjs (a.toNat / 26)
  simp only [List.length_cons, List.length_nil] at this; omega
 ·have h1 := key _ _ (by omega) (by omega) (List.cons.inj h).1
  have h2 := qnu (List.cons.inj h).2
  omega

/-! names -/
def okCh (c : UInt8) : Bool := decide (c ≠ 32) && (decide (c ≠ 40) && decide (c ≠ 41))
def okNm (s : List UInt8) : Prop := s ≠ [] ∧ s.all okCh = true ∧ s.getD 0 0 ≠ 45
theorem qcf {c d : UInt8} (h : c.toNat ≠ d.toNat) : c ≠ d := fun e => h (by rw [e])
theorem qmr {c : UInt8} (h : 42 ≤ c.toNat ∨ (33 ≤ c.toNat ∧ c.toNat ≤ 39)) : okCh c = true := by
 have h1 : c ≠ 32 := qcf (by rw [show (32 : UInt8).toNat = 32 from rfl]; omega)
 have h2 : c ≠ 40 := qcf (by rw [show (40 : UInt8).toNat = 40 from rfl]; omega)
 have h3 : c ≠ 41 := qcf (by rw [show (41 : UInt8).toNat = 41 from rfl]; omega)
 simp [okCh, h1, h2, h3]
theorem qm1 {s : List UInt8} (h : s.all qsx = true) : s.all okCh = true := by
 rw [List.all_eq_true] at h ⊢
 intro c hc
 have := h c hc
 simp only [qsx, Bool.and_eq_true, decide_eq_true_eq] at this
 exact qmr (by omega)
theorem qkv (a : Int) : (digI a).all okCh = true := by
 have := qm1 (qnb _ a.natAbs (Nat.le_refl _))
 rw [digI]; split
 ·rw [List.all_cons, this]; decide
 ·exact this
theorem qxl {s : List UInt8} (h : onsW s = true) : s.all okCh = true := by
 rw [onsW, List.all_eq_true] at h
 rw [List.all_eq_true]
 intro c hc
 have := h c hc
 simp only [onW, qnd, qif, qch, Bool.or_eq_true, Bool.and_eq_true, decide_eq_true_eq] at this
 exact qmr (by omega)
theorem qcq {a : Int} (ha : 0 ≤ a) : ∃ c r, ltrI a = c :: r ∧ 97 ≤ c.toNat ∧ c.toNat ≤ 122 ∧ r.all okCh = true := by
 rw [ltrI, if_neg (by omega)]
 split
 ·refine ⟨_, [], rfl, ?_, ?_, rfl⟩ <;> (rw [UInt8.toNat_ofNat']; omega)
 ·refine ⟨_, _, rfl, ?_, ?_, qm1 (qnb _ _ (Nat.le_refl _))⟩ <;> (rw [UInt8.toNat_ofNat']; omega)
theorem qei {t : Ty} (h : mayY t = true) (hn : ¬ t.con = arrW) :
 (t.con = [] ∧ 0 ≤ t.var ∧ qby t = ltrI t.var) ∨ (t.con = [] ∧ t.var < 0 ∧ qby t = 63 :: digI (-1 - t.var)) ∨ (t.con ≠ [] ∧ t.var = 0 ∧ qby t = t.con ∧ t.con.all okCh = true ∧ (t.con.getD 0 0 = 33 ∨ 65 ≤ (t.con.getD 0 0).toNat ∧ (t.con.getD 0 0).toNat ≤ 90)) := by
 rw [mayY, mayW] at h
 by_cases hc : t.con = []
 ·by_cases hv : 0 ≤ t.var
  ·exact .inl ⟨hc, hv, by rw [qby, if_pos hc, if_pos hv]⟩
  ·exact .inr (.inl ⟨hc, by omega, by rw [qby, if_pos hc, if_neg hv]⟩)
 ·rw [if_neg hc, if_neg hn] at h
  refine .inr (.inr ⟨hc, ?_⟩)
  by_cases hf : fixW t.con = true
  ·rw [if_pos hf, Bool.and_eq_true, decide_eq_true_eq] at h
   simp only [fixW, Bool.and_eq_true, decide_eq_true_eq] at hf
   obtain ⟨h1, h2, h3⟩ := hf
   have h0 : ∃ r, t.con = 33 :: r := by
    cases hh : t.con with
    | nil => exact absurd hh hc
    | cons c r => rw [hh] at h1; simp [pfx] at h1; exact ⟨r, by rw [← h1]⟩
   obtain ⟨r, hr⟩ := h0
   refine ⟨h.1, by rw [qby, if_neg hc], ?_, .inl (by rw [hr]; rfl)⟩
   rw [hr] at h3 ⊢
   rw [List.drop_succ_cons, List.drop_zero] at h3
   rw [List.all_cons, ← h3, qkv]; decide
  ·rw [if_neg hf, Bool.and_eq_true, decide_eq_true_eq] at h
   obtain ⟨h1, h2⟩ := h
   simp only [conW, Bool.and_eq_true, qif, decide_eq_true_eq] at h2
   refine ⟨h1, by rw [qby, if_neg hc], qxl h2.2, .inr (by omega)⟩
theorem qcj {t : Ty} (h : mayY t = true) (hn : ¬ t.con = arrW) : okNm (qby t) := by
 rcases qei h hn with ⟨h1, h2, h3⟩ | ⟨h1, h2, h3⟩ | ⟨h1, h2, h3, h4, h5⟩
 ·obtain ⟨c, r, e, h4, h5, h6⟩ := qcq h2
  rw [h3, e]
  refine ⟨by simp, by rw [List.all_cons, h6, qmr (by omega)]; rfl, qcf (show c.toNat ≠ 45 by omega)⟩
 ·rw [h3]
  exact ⟨by simp, by rw [List.all_cons, qkv]; decide, by show (63 : UInt8) ≠ 45; decide⟩
 ·rw [h3]
  refine ⟨h1, h4, ?_⟩
  rcases h5 with h5 | h5
  ·rw [h5]; decide
  ·exact qcf (show _ ≠ 45 by omega)
theorem qk1 {t u : Ty} (h : mayY t = true) (hn : ¬ t.con = arrW) (h' : mayY u = true) (hn' : ¬ u.con = arrW) (e : qby t = qby u) : t.con = u.con ∧ t.var = u.var := by
 rcases qei h hn with ⟨h1, h2, h3⟩ | ⟨h1, h2, h3⟩ | ⟨h1, h2, h3, h4, h5⟩ <;> rcases qei h' hn' with ⟨g1, g2, g3⟩ | ⟨g1, g2, g3⟩ | ⟨g1, g2, g3, g4, g5⟩
 ·rw [h3, g3] at e
  exact ⟨h1.trans g1.symm, qvl h2 g2 e⟩
 ·obtain ⟨c, r, e1, h4, h5, h6⟩ := qcq h2
  rw [h3, g3, e1] at e
  have := (List.cons.inj e).1
  subst this
  exact absurd h4 (by decide)
 ·obtain ⟨c, r, e1, h4, h5, h6⟩ := qcq h2
  rw [h3, g3, e1] at e
  rw [← e] at g5
  rcases g5 with g5 | g5
  ·have g5 : c = 33 := g5
   subst g5; exact absurd h4 (by decide)
  ·have g5 : 65 ≤ c.toNat ∧ c.toNat ≤ 90 := g5
   omega
 ·obtain ⟨c, r, e1, h4, h5, h6⟩ := qcq g2
  rw [h3, g3, e1] at e
  have := (List.cons.inj e).1
  subst this
  exact absurd h4 (by decide)
 ·rw [h3, g3] at e
  have := qtu (by omega) (by omega) (List.cons.inj e).2
  exact ⟨h1.trans g1.symm, by omega⟩
 ·rw [h3, g3] at e
  rw [← e, show (63 :: digI (-1 - t.var)).getD 0 0 = 63 from rfl] at g5
  exact absurd g5 (by decide)
 ·obtain ⟨c, r, e1, q4, q5, q6⟩ := qcq g2
  rw [h3, g3, e1] at e
  rw [e] at h5
  rcases h5 with g5 | g5
  ·have g5 : c = 33 := g5
   subst g5; exact absurd q4 (by decide)
  ·have g5 : 65 ≤ c.toNat ∧ c.toNat ≤ 90 := g5
   omega
 ·rw [h3, g3] at e
  rw [e, show (63 :: digI (-1 - u.var)).getD 0 0 = 63 from rfl] at h5
  exact absurd h5 (by decide)
 ·rw [h3, g3] at e
  exact ⟨e, h2.trans g2.symm⟩

/-! rests -/
def endA : List UInt8 → Prop
 | [] => True
 | c :: _ => c = 32 ∨ c = 41
def endR : List UInt8 → Prop
 | [] => True
 | c :: r => c = 41 ∨ (c = 32 ∧ r.getD 0 0 = 45)
def endT : List UInt8 → Prop
 | [] => True
 | c :: _ => c = 41
theorem qmw {r : List UInt8} (h : endT r) : endR r := by cases r with | nil => trivial | cons c r => exact .inl h
theorem q8l {r : List UInt8} (h : endR r) : endA r := by
 cases r with
 | nil => trivial
 | cons c r => rcases h with h | h
               ·exact .inr h
               ·exact .inl h.1
theorem qfk : ∀ {s s' r r' : List UInt8}, s.all okCh = true → s'.all okCh = true → endA r → endA r' → s ++ r = s' ++ r' → s = s' ∧ r = r'
 | [], [], r, r', _, _, _, _, e => ⟨rfl, e⟩
 | [], c :: s', r, r', _, h', hr, _, e => by
   exfalso
   cases r with
   | nil => simp at e
   | cons d r =>
     have e1 : d = c := (List.cons.inj e).1
     subst e1
     rw [List.all_cons, Bool.and_eq_true] at h'
     rcases hr with rfl | rfl
     ·exact absurd h'.1 (by decide)
     ·exact absurd h'.1 (by decide)
 | c :: s, [], r, r', h, _, _, hr, e => by
   exfalso
   cases r' with
   | nil => simp at e
   | cons d r' =>
     have e1 : c = d := (List.cons.inj e).1
     subst e1
     rw [List.all_cons, Bool.and_eq_true] at h
     rcases hr with rfl | rfl
     ·exact absurd h.1 (by decide)
     ·exact absurd h.1 (by decide)
 | c :: s, d :: s', r, r', h, h', hr, hr', e => by
   rw [List.all_cons, Bool.and_eq_true] at h h'
   have e1 := List.cons.inj e
   obtain ⟨q1, q2⟩ := qfk h.2 h'.2 hr hr' e1.2
   exact ⟨by rw [e1.1, q1], q2⟩
theorem qes {s : List UInt8} (h : okNm s) : ∃ c r, s = c :: r ∧ c ≠ 32 ∧ c ≠ 40 ∧ c ≠ 41 ∧ c ≠ 45 := by
 obtain ⟨h1, h2, h3⟩ := h
 cases s with
 | nil => exact absurd rfl h1
 | cons c r =>
   rw [List.all_cons, Bool.and_eq_true] at h2
   have := h2.1
   simp only [okCh, Bool.and_eq_true, decide_eq_true_eq] at this
   exact ⟨c, r, rfl, this.1, this.2.1, this.2.2, h3⟩

def injT (t : Ty) : Prop := ∀ u r r', qv u = true → endT r → endT r' → txtY t ++ r = txtY u ++ r' → t = u ∧ r = r'
def injR (t : Ty) : Prop := ¬ t.con = arrW → ∀ u r r', qv u = true → ¬ u.con = arrW → endR r → endR r' → txtY t ++ r = txtY u ++ r' → t = u ∧ r = r'
def qh7 (t : Ty) : List UInt8 := parW (decide (t.args ≠ [])) (txtY t)
theorem qy {t : Ty} (h : qv t = true) : mayY t = true := by rw [qg9, Bool.and_eq_true] at h; exact h.2
theorem qcl {t : Ty} (h : qv t = true) (h1 : t.args = []) : ¬ t.con = arrW := fun hc => by
 obtain ⟨a, b, h2, _⟩ := qcu h hc
 rw [h1] at h2; cases h2
theorem qdl {t : Ty} (h : qv t = true) (h1 : t.args = []) : qh7 t = qby t := by
 rw [qh7, h1, parW, if_neg (by simp), qd5 (qcl h h1), h1]; simp [argY]
theorem qdt {t : Ty} (h1 : t.args ≠ []) : qh7 t = 40 :: (txtY t ++ [41]) := by rw [qh7, parW, if_pos (by simp [h1])]
theorem qrr {t u : Ty} (h1 : t.con = u.con) (h2 : t.var = u.var) (h3 : t.args = u.args) : t = u := ty_eq.2 ⟨⟨h1, h2⟩, h3⟩
theorem qs0 {t u : Ty} {r r' : List UInt8} (hI : injT t) (hs : qv t = true) (hu : qv u = true) (hr : endA r) (hr' : endA r') (e : qh7 t ++ r = qh7 u ++ r') : t = u ∧ r = r' := by
 by_cases h1 : t.args = [] <;> by_cases h2 : u.args = []
 ·rw [qdl hs h1, qdl hu h2] at e
  have k1 := qcj (qy hs) (qcl hs h1)
  have k2 := qcj (qy hu) (qcl hu h2)
  obtain ⟨q1, q2⟩ := qfk k1.2.1 k2.2.1 hr hr' e
  obtain ⟨q3, q4⟩ := qk1 (qy hs) (qcl hs h1) (qy hu) (qcl hu h2) q1
  exact ⟨qrr q3 q4 (h1.trans h2.symm), q2⟩
 ·exfalso
  rw [qdl hs h1, qdt h2] at e
  obtain ⟨c, s, k1, k2, k3, k4, k5⟩ := qes (qcj (qy hs) (qcl hs h1))
  rw [k1] at e
  exact k3 (List.cons.inj e).1
 ·exfalso
  rw [qdt h1, qdl hu h2] at e
  obtain ⟨c, s, k1, k2, k3, k4, k5⟩ := qes (qcj (qy hu) (qcl hu h2))
  rw [k1] at e
  exact k3 (List.cons.inj e).1.symm
 ·rw [qdt h1, qdt h2] at e
  have e1 : txtY t ++ [41] ++ r = txtY u ++ [41] ++ r' := (List.cons.inj e).2
  rw [List.append_assoc, List.append_assoc] at e1
  obtain ⟨q1, q2⟩ := hI u _ _ hu (show endT ([41] ++ r) from rfl) (show endT ([41] ++ r') from rfl) e1
  exact ⟨q1, (List.cons.inj q2).2⟩
theorem qe8 (a : Ty) (l : List Ty) : argY (a :: l) = 32 :: (qh7 a ++ argY l) := by rw [argY]; rfl
theorem qph {t : Ty} (hs : qv t = true) : ∃ c s, qh7 t = c :: s ∧ c ≠ 45 := by
 by_cases h1 : t.args = []
 ·rw [qdl hs h1]
  obtain ⟨c, s, k1, k2, k3, k4, k5⟩ := qes (qcj (qy hs) (qcl hs h1))
  exact ⟨c, s, k1, k5⟩
 ·rw [qdt h1]; exact ⟨40, _, rfl, by decide⟩
theorem qga {l : List Ty} {r : List UInt8} (hr : endR r) : endA (argY l ++ r) := by
 cases l with
 | nil => exact q8l hr
 | cons a l => rw [qe8]; exact .inl rfl
theorem qwu {a : Ty} {l : List Ty} {r r' : List UInt8} (hs : qv a = true) (hr : endR r) (e : r = argY (a :: l) ++ r') : False := by
 obtain ⟨c, s, k1, k2⟩ := qph hs
 rw [qe8, k1] at e
 subst e
 rcases hr with hr | hr
 ·exact absurd hr (by decide)
 ·exact k2 hr.2
theorem qnk : ∀ {l l' : List Ty} {r r' : List UInt8}, (∀ a ∈ l, injT a) → (∀ a ∈ l, qv a = true) → (∀ a ∈ l', qv a = true) → endR r → endR r' → argY l ++ r = argY l' ++ r' → l = l' ∧ r = r'
 | [], [], r, r', _, _, _, _, _, e => ⟨rfl, by simpa [argY] using e⟩
 | [], a :: l', r, r', _, _, h', hr, _, e => (qwu (h' a (by simp)) hr (by simpa [argY] using e)).elim
 | a :: l, [], r, r', _, h, _, _, hr', e => (qwu (h a (by simp)) hr' (by rw [show argY [] = [] by rw [argY], List.nil_append] at e; exact e.symm)).elim
 | a :: l, b :: l', r, r', hI, h, h', hr, hr', e => by
   rw [qe8, qe8] at e
   have e1 : qh7 a ++ argY l ++ r = qh7 b ++ argY l' ++ r' := (List.cons.inj e).2
   rw [List.append_assoc, List.append_assoc] at e1
   obtain ⟨q1, q2⟩ := qs0 (hI a (by simp)) (h a (by simp)) (h' b (by simp)) (qga hr) (qga hr') e1
   obtain ⟨q3, q4⟩ := qnk (fun x hx => hI x (by simp [hx])) (fun x hx => h x (by simp [hx])) (fun x hx => h' x (by simp [hx])) hr hr' q2
   exact ⟨by rw [q1, q3], q4⟩
theorem qzp {t : Ty} (hs : qv t = true) (hI : ∀ a ∈ t.args, injT a) : injR t := by
 intro hn u r r' hu hnu hr hr' e
 rw [qd5 hn, qd5 hnu, List.append_assoc, List.append_assoc] at e
 have k1 := qcj (qy hs) hn
 have k2 := qcj (qy hu) hnu
 obtain ⟨q1, q2⟩ := qfk k1.2.1 k2.2.1 (qga hr) (qga hr') e
 obtain ⟨q3, q4⟩ := qk1 (qy hs) hn (qy hu) hnu q1
 obtain ⟨q5, q6⟩ := qnk hI (fun a ha => qdz hs ha) (fun a ha => qdz hu ha) hr hr' q2
 exact ⟨qrr q3 q4 q5, q6⟩
def arrS : List UInt8 := [32, 45, 62, 32]
theorem qgb (s : List UInt8) : endR (arrS ++ s) := .inr ⟨rfl, rfl⟩
theorem qgj {t : Ty} (hs : qv t = true) (hn : ¬ t.con = arrW) : ∃ c s, txtY t = c :: s ∧ c ≠ 40 := by
 obtain ⟨c, s, k1, k2, k3, k4, k5⟩ := qes (qcj (qy hs) hn)
 rw [qd5 hn, k1]
 exact ⟨c, _, rfl, k3⟩
theorem qfh {a b t : Ty} (h : t.con = arrW) (h2 : t.args = [a, b]) (ha : a.con = arrW) : txtY t = 40 :: (txtY a ++ (41 :: (arrS ++ txtY b))) := by
 rw [qgd h h2, parW, if_pos (by simp [ha])]; simp [arrS]
theorem qfd {a b t : Ty} (h : t.con = arrW) (h2 : t.args = [a, b]) (ha : ¬ a.con = arrW) : txtY t = txtY a ++ (arrS ++ txtY b) := by
 rw [qgd h h2, parW, if_neg (by simp [ha])]; rfl
theorem qpk {t : Ty} (h : mayY t = true) (h1 : t.con = arrW) : t.var = 0 := by
 rw [mayY, mayW, h1, if_neg (by decide), if_pos rfl, Bool.and_eq_true, decide_eq_true_eq] at h
 exact h.1
theorem qka {s r : List UInt8} (h : endT r) (e : arrS ++ s = r) : False := by
 subst e
 exact absurd (show (32 : UInt8) = 41 from h) (by decide)
theorem qtm : ∀ t : Ty, qv t = true → injT t ∧ injR t := Ty.ind fun t ih hs => by
 have hR : injR t := qzp hs fun a ha => (ih a ha (qdz hs ha)).1
 refine ⟨?_, hR⟩
 intro u r r' hu hr hr' e
 by_cases h1 : t.con = arrW
 ·obtain ⟨a, b, h2, ha, hb⟩ := qcu hs h1
  have ia := ih a (by simp [h2]) ha
  have ib := ih b (by simp [h2]) hb
  by_cases g1 : u.con = arrW
  ·obtain ⟨c, d, g2, hc, hd⟩ := qcu hu g1
   have hfin : a = c → b = d → t = u := fun e1 e2 => qrr (h1.trans g1.symm) ((qpk (qy hs) h1).trans (qpk (qy hu) g1).symm) (by rw [h2, g2, e1, e2])
   by_cases ca : a.con = arrW <;> by_cases cc : c.con = arrW
   ·rw [qfh h1 h2 ca, qfh g1 g2 cc] at e
    simp only [List.cons_append, List.append_assoc] at e
    obtain ⟨q1, q2⟩ := ia.1 c _ _ hc (show endT (41 :: _) from rfl) (show endT (41 :: _) from rfl) (List.cons.inj e).2
    obtain ⟨q3, q4⟩ := ib.1 d _ _ hd hr hr' (List.append_cancel_left (List.cons.inj q2).2)
    exact ⟨hfin q1 q3, q4⟩
   ·exfalso
    rw [qfh h1 h2 ca, qfd g1 g2 cc] at e
    obtain ⟨x, s, k1, k2⟩ := qgj hc cc
    rw [k1] at e
    exact k2 (List.cons.inj e).1.symm
   ·exfalso
    rw [qfd h1 h2 ca, qfh g1 g2 cc] at e
    obtain ⟨x, s, k1, k2⟩ := qgj ha ca
    rw [k1] at e
    exact k2 (List.cons.inj e).1
   ·rw [qfd h1 h2 ca, qfd g1 g2 cc] at e
    simp only [List.append_assoc] at e
    obtain ⟨q1, q2⟩ := ia.2 ca c _ _ hc cc (qgb _) (qgb _) e
    obtain ⟨q3, q4⟩ := ib.1 d _ _ hd hr hr' (List.append_cancel_left q2)
    exact ⟨hfin q1 q3, q4⟩
  ·exfalso
   by_cases ca : a.con = arrW
   ·rw [qfh h1 h2 ca] at e
    obtain ⟨x, s, k1, k2⟩ := qgj hu g1
    rw [k1] at e
    exact k2 (List.cons.inj e).1.symm
   ·rw [qfd h1 h2 ca] at e
    simp only [List.append_assoc] at e
    obtain ⟨q1, q2⟩ := ia.2 ca u _ _ hu g1 (qgb _) (qmw hr') e
    exact qka hr' q2
 ·by_cases g1 : u.con = arrW
  ·exfalso
   obtain ⟨c, d, g2, hc, hd⟩ := qcu hu g1
   by_cases cc : c.con = arrW
   ·rw [qfh g1 g2 cc] at e
    obtain ⟨x, s, k1, k2⟩ := qgj hs h1
    rw [k1] at e
    exact k2 (List.cons.inj e).1
   ·rw [qfd g1 g2 cc] at e
    simp only [List.append_assoc] at e
    obtain ⟨q1, q2⟩ := hR h1 c _ _ hc cc (qmw hr) (qgb _) e
    exact qka hr q2.symm
  ·exact hR h1 u r r' hu g1 (qmw hr) (qmw hr') e
theorem qwa {t u : Ty} (h : qv t = true) (hu : qv u = true) (e : txtY t = txtY u) : t = u :=
 ((qtm t h).1 u [] [] hu trivial trivial (by rw [e])).1
end Go.Proofs.Ytfpobiheiloamaa
