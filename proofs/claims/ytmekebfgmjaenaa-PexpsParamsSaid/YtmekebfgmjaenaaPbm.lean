/- Texts of this proof, joined. -/
import Derived.Test.YtmekebfgmjaenaaPbg
import Derived.Test.YtmekebfgmjaenaaPbl

/- expressions: the reference: what it reads -/
namespace Go.Proofs.Ytmekebfgmjaenaa
open Go Go.RowKit Go.V
set_option linter.unusedVariables false
set_option linter.unusedSimpArgs false

theorem q3t {c : K} (h : begE c = true) : c.err = 0 := (qfm (qtj h)).1
theorem qvw {c : K} (h : c.err ≠ 0) : begE c = false := by
  cases hb : begE c with
  | false => rfl
  | true => exact absurd (q3t hb) h
def qdp (rec : K → K × N) (c : K) : K × N :=
  if begE c = true then
    if isK c [40] = true then (qbv (qr (rec (qr (qe c).1 [40]).1).1 [41]).1, (rec (qr (qe c).1 [40]).1).2)
    else (qs c, (leafE c).getD N0)
  else (qee c 5, N0)
def qgd (rec : K → K × N) : Nat → K → N → K × N
  | 0, c, n => (c, n)
  | f + 1, c, n => if begE c = true then qgd rec f (qdp rec c).1 (appN n (qdp rec c).2) else (c, n)
def qm5 (rec : K → K × N) (c : K) : K × N := qgd rec (em (qdp rec c).1 + 1) (qdp rec c).1 (qdp rec c).2
def qbpc (l : List T) (n : N) : N := l.foldr lamN n
def qd1 : Nat → K → List T → K × List T
  | 0, c, acc => (c, acc)
  | f + 1, c, acc => if (qw c).kind = 1 then qd1 f (qs c) (acc ++ [qw c]) else (c, acc)
def qq7 (c : K) : K × List T := qd1 (em c + 1) c []
def qyt (rec : K → K × N) (x : List UInt8) (v : K × List T) : K × N := ((rec (qr v.1 x).1).1, qbpc v.2 (rec (qr v.1 x).1).2)
def qii (rec : K → K × N) (x : List UInt8) (c : K) : K × N := qyt rec x (qq7 c)
def qqk (rec : K → K × N) (c : K) : K × N := if (qw c).kind = 1 then qii rec [45, 62] c else (qee c 5, N0)
def qf4 (rec : K → K × N) (c : K) : K × N :=
  if (qp (kindK c 1).1 [58, 58]).2 = true then
    ((qq9 (rest (qp (kindK c 1).1 [58, 58]).1 + 2) (qp (kindK c 1).1 [58, 58]).1).1, qn7 32 (qhh c 1) (qq9 (rest (qp (kindK c 1).1 [58, 58]).1 + 2) (qp (kindK c 1).1 [58, 58]).1).2)
  else ((qii rec [61] (kindK c 1).1).1, qn7 31 (qhh c 1) (qii rec [61] (kindK c 1).1).2)
def qmg (c : K) : K × Bool := ((qp c [59]).1, (qp c [59]).2 && !isK (qp c [59]).1 [125])
def qdv (rd : K → K × N) : Nat → K → List N → K × List N
  | 0, c, acc => (c, acc)
  | f + 1, c, acc => if (qmg (rd c).1).2 = true then qdv rd f (qmg (rd c).1).1 (acc ++ [(rd c).2]) else ((qmg (rd c).1).1, acc ++ [(rd c).2])
def qgc (rd : K → K × N) (c : K) : K × List N := qdv rd (em c + 2) c []
def qzy (rec : K → K × N) (p : Int) (L : K × List N) : K × N :=
  ((rec (qr (qr L.1 [125]).1 [105, 110]).1).1, .mk 26 p 0 [] (L.2 ++ [(rec (qr (qr L.1 [125]).1 [105, 110]).1).2]))
def qq4 (rec : K → K × N) (p : Int) (c : K) : K × N := qzy rec p (qgc (qf4 rec) (qr c [123]).1)
def quu (rec : K → K × N) (p : K × N) : K × N := ((rec (qr p.1 [45, 62]).1).1, altN p.2 (rec (qr p.1 [45, 62]).1).2)
def qha (rec : K → K × N) (c : K) : K × N := quu rec (qkm (rest c + 2) c)
def qwh (p : Int) (x : N) (L : K × List N) : K × N := ((qr L.1 [125]).1, .mk 27 p 0 [] (x :: L.2))
def qlx (rec : K → K × N) (p : Int) (c : K) : K × N := qwh p (rec c).2 (qgc (qha rec) (qr (qr (rec c).1 [111, 102]).1 [123]).1)
def q0q (p : Int) (a b d : K × N) : K × N := (d.1, .mk 28 p 0 [] [a.2, b.2, d.2])
def qr3 (rec : K → K × N) (p : Int) (a b : K × N) : K × N := q0q p a b (rec (qr b.1 [101, 108, 115, 101]).1)
def q74 (rec : K → K × N) (p : Int) (a : K × N) : K × N := qr3 rec p a (rec (qr a.1 [116, 104, 101, 110]).1)
def qqt (rec : K → K × N) (p : Int) (c : K) : K × N := q74 rec p (rec c)
def qf8 (rec : K → K × N) (c : K) : K × N :=
  if (qp c [92]).2 = true then qqk rec (qp c [92]).1
  else if (qp c [108, 101, 116]).2 = true then qq4 rec (qw c).pos (qp c [108, 101, 116]).1
  else if (qp c [99, 97, 115, 101]).2 = true then qlx rec (qw c).pos (qp c [99, 97, 115, 101]).1
  else if (qp c [105, 102]).2 = true then qqt rec (qw c).pos (qp c [105, 102]).1
  else qm5 rec c
def qlb : Nat → K → K × N
  | 0, c => (c, N0)
  | f + 1, c => (qbv (qf8 (qlb f) (qe c).1).1, (qf8 (qlb f) (qe c).1).2)

theorem qnb : ∀ (f : Nat) (c : K) (acc : List T), Mon c (qd1 f c acc).1
  | 0, c, acc => Mon.refl c
  | f + 1, c, acc => by
    rw [qd1]
    split
    · exact (qbm c).trans (qnb f _ _)
    · exact Mon.refl c
theorem qw2 (c : K) : Mon c (qmg c).1 := q8 c _
section
variable {rec : K → K × N} (hm : ∀ c, Mon c (rec c).1)
include hm
theorem qia (c : K) : Mon c (qdp rec c).1 := by
  unfold qdp
  split
  · split
    · exact ((qx c).trans (qo _ _)).trans (qlm hm c)
    · exact qbm c
  · exact qec c 5
theorem qqf {c : K} (h : begE c = true) : em (qdp rec c).1 < em c := by
  unfold qdp
  rw [if_pos h]
  split
  · have h1 := qim (c := c) (by assumption)
    have h2 := (qlm hm c).em
    simp only; omega
  · exact qkj (qtj h)
theorem qk1 : ∀ (f : Nat) (c : K) (n : N), Mon c (qgd rec f c n).1
  | 0, c, n => Mon.refl c
  | f + 1, c, n => by
    rw [qgd]
    split
    · exact (qia hm c).trans (qk1 f _ _)
    · exact Mon.refl c
theorem qtz (c : K) : Mon c (qm5 rec c).1 := (qia hm c).trans (qk1 hm _ _ _)
theorem qkq (x : List UInt8) (c : K) : Mon c (qii rec x c).1 := ((qnb _ _ _).trans (qo _ x)).trans (hm _)
theorem quz (c : K) : Mon c (qqk rec c).1 := by
  unfold qqk
  split
  · exact qkq hm _ c
  · exact qec c 5
theorem qky (c : K) : Mon c (qf4 rec c).1 := by
  unfold qf4
  split
  · exact ((qdc c 1).trans (q8 _ _)).trans ((qk5 (qd5 _) _).trans (qd5 _ _))
  · exact (qdc c 1).trans (qkq hm _ _)
omit hm in
theorem qgw {rd : K → K × N} (hd : ∀ c, Mon c (rd c).1) : ∀ (f : Nat) (c : K) (acc : List N), Mon c (qdv rd f c acc).1
  | 0, c, acc => Mon.refl c
  | f + 1, c, acc => by
    rw [qdv]
    split
    · exact ((hd c).trans (qw2 _)).trans (qgw hd f _ _)
    · exact (hd c).trans (qw2 _)
theorem qut (p : Int) (c : K) : Mon c (qq4 rec p c).1 := ((((qo c _).trans (qgw (qky hm) _ _ _)).trans (qo _ _)).trans (qo _ _)).trans (hm _)
theorem qmd (c : K) : Mon c (qha rec c).1 := ((qjs _ c).trans (qo _ _)).trans (hm _)
theorem qs3 (p : Int) (c : K) : Mon c (qlx rec p c).1 := ((((hm c).trans (qo _ _)).trans (qo _ _)).trans (qgw (qmd hm) _ _ _)).trans (qo _ _)
theorem qvb (p : Int) (c : K) : Mon c (qqt rec p c).1 := ((((hm c).trans (qo _ _)).trans (hm _)).trans (qo _ _)).trans (hm _)
theorem qsh (c : K) : Mon c (qf8 rec c).1 := by
  unfold qf8
  split
  · exact (q8 c _).trans (quz hm _)
  · split
    · exact (q8 c _).trans (qut hm _ _)
    · split
      · exact (q8 c _).trans (qs3 hm _ _)
      · split
        · exact (q8 c _).trans (qvb hm _ _)
        · exact qtz hm c
end
theorem qpf : ∀ (f : Nat) (c : K), Mon c (qlb f c).1
  | 0, c => Mon.refl c
  | f + 1, c => ((qx c).trans (qsh (qpf f) _)).trans (qbg _)

/-! The program. -/


theorem qbeu {c : K} (h : (qmg c).2 = true) : em (qmg c).1 < em c := by
  unfold qmg at h ⊢
  simp only [Bool.and_eq_true] at h
  exact qhm h.1



def NoEnd (c : K) : Prop := ∀ t ∈ c.l, t.kind ≠ 0
theorem NoEnd.mon {c c' : K} (h : NoEnd c) (m : Mon c c') : NoEnd c' := by unfold NoEnd; rw [m.2.2.2]; exact h
theorem q72 (r : K × Option N) : toO (ofO r) = r := by
  obtain ⟨c, o⟩ := r
  cases o <;> rfl
theorem qdu {p : R3} {r : K × N} (h1 : p.1 = r.1) (h2 : p.2.2 = true → p.2.1 = r.2) (h3 : p.2.2 = false → p.1.err ≠ 0) : qdl (toO p) r := by
  obtain ⟨d, n, ok⟩ := p
  cases ok with
  | false => exact ⟨h1, (fun n h => by cases h), fun _ => h3 rfl⟩
  | true => exact ⟨h1, (fun n h => by cases h; exact h2 rfl), (fun h => by cases h)⟩
theorem qls {p : R3} {r : K × N} (h : qdl (toO p) r) : p.1 = r.1 := h.1
theorem qvn {p : R3} {r : K × N} (h : qdl (toO p) r) (hs : p.2.2 = true) : p.2.1 = r.2 := h.2.1 _ (by unfold toO; simp only; rw [if_pos hs])
theorem qvr {p : R3} {r : K × N} (h : qdl (toO p) r) (hs : p.2.2 = false) : p.1.err ≠ 0 := h.2.2 (by unfold toO; simp only; rw [if_neg (by rw [hs]; simp)])
theorem qgx {p : K × Option N} {r : K × N} (h : qdl p r) (hs : ¬ p.2.isSome = true) : p.1.err ≠ 0 := h.2.2 (by
  cases ho : p.2 with
  | none => rfl
  | some n => rw [ho] at hs; exact absurd rfl hs)
theorem qg3 {p : K × Option N} {r : K × N} (h : qdl p r) (hs : p.2.isSome = true) : p.2.getD N0 = r.2 := by
  obtain ⟨n, hn⟩ := Option.isSome_iff_exists.1 hs
  rw [hn]
  exact h.2.1 n hn
theorem qrx {rec : K → K × N} {c : K} (h : c.err ≠ 0) : qdp rec c = (c, N0) := by
  rw [qdp, if_neg (by rw [qvw h]; simp), qev h]
theorem qh2 {rec : K → K × N} {c : K} (h : c.err ≠ 0) (f : Nat) (n : N) : qgd rec f c n = (c, n) := by
  cases f with
  | zero => rfl
  | succ f => rw [qgd, if_neg (by rw [qvw h]; simp)]
theorem qng {c : K} (h : c.err ≠ 0) (f : Nat) (acc : List T) : qd1 f c acc = (c, acc) := by
  cases f with
  | zero => rfl
  | succ f => rw [qd1, qft h, if_neg (by decide)]
theorem q10 {c : K} {k : Int} (h : c.err ≠ 0) : kindK c k = (c, false) := by rw [qu7 h, qev h]
theorem qja : ∀ (f : Nat) (c : K) (acc : List T), qd1 f c acc = ((qd1 f c []).1, acc ++ (qd1 f c []).2)
  | 0, c, acc => by simp [qd1]
  | f + 1, c, acc => by
    rw [qd1, qd1]
    split
    · rw [qja f _ (acc ++ [qw c]), qja f _ ([] ++ [qw c])]
      simp
    · simp
section
variable {rp : K → K × Option N} {rr : K → K × N} {b : Nat} (hx : ∀ c : K, c.err ≠ 0 → (rr c).1 = c) (ih : ∀ c, NoEnd c → em c < b → qdl (rp c) (rr c))
include hx ih
theorem ql2 {c : K} (hn : NoEnd c) (hr : em c ≤ b) : qdl (qbc rp c) (qdp rr c) := by
  unfold qbc qdp
  by_cases hl : (leafE c).isSome = true
  · have hk : ¬ isK c [40] = true := by
      intro h
      obtain ⟨n, hn⟩ := Option.isSome_iff_exists.1 hl
      simp only [isK, qes, Bool.and_eq_true, Bool.or_eq_true, decide_eq_true_eq] at h
      unfold leafE at hn
      rw [if_neg (by omega), if_neg (by omega), if_neg (by omega)] at hn
      cases hn
    rw [if_pos hl, if_pos (show begE c = true by simp [begE, hl]), if_neg hk]
    exact ⟨rfl, fun n h => by simp only at h ⊢; rw [h]; rfl, fun h => by simp only at h; rw [h] at hl; cases hl⟩
  · rw [if_neg hl]
    by_cases hk : isK c [40] = true
    · rw [if_pos hk, if_pos (show begE c = true by simp [begE, hk]), if_pos hk]
      have hem := qim hk
      by_cases he : (qe c).2 = true
      · rw [if_pos he]
        have hk' : isK (qe c).1 [40] = true := by rw [qlv he]; exact hk
        rw [qgb hk'] at hem ⊢
        simp only at hem ⊢
        obtain ⟨a1, a2, a3⟩ := ih (qs (qe c).1) (hn.mon ((qx c).trans (qbm _))) (by omega)
        rw [← a1]
        generalize rp (qs (qe c).1) = r at *
        obtain ⟨d, o⟩ := r
        simp only at a1 a2 a3 ⊢
        cases o with
        | none =>
          have h3 := a3 rfl
          rw [if_neg (by simp), qbz h3, qb3 h3]
          exact ⟨rfl, (fun n h => by cases h), fun _ => h3⟩
        | some n =>
          rw [if_pos (by rfl)]
          by_cases hw : (qr d [41]).2 = true
          · rw [if_pos hw]
            exact ⟨rfl, fun m h => a2 m h, (fun h => by cases h)⟩
          · rw [if_neg hw]
            have h3 := qdh (by simpa using hw)
            exact ⟨(qb3 h3).symm, (fun n h => by cases h), fun _ => h3⟩
      · have he' : (qe c).2 = false := by simpa using he
        have h1 := qe3 he'
        rw [if_neg he]
        rw [qbz h1] at hem ⊢
        simp only at hem ⊢
        rw [hx _ h1, qbz h1, qb3 h1]
        exact ⟨rfl, (fun n h => by cases h), fun _ => h1⟩
    · rw [if_neg hk, if_neg (show ¬ begE c = true by simp [begE, hl, hk])]
      exact ⟨rfl, (fun n h => by cases h), fun _ => qg6 c⟩
theorem qn4 (hp : ∀ c, Mon c (rp c).1) (hm : ∀ c, Mon c (rr c).1) : ∀ (f g : Nat) (c : K) (n : N), NoEnd c → rest c < f → em c < g → em c ≤ b → qdl (toO (qd0 rp f c n)) (qgd rr g c n)
  | 0, _, _, _ => fun _ h _ _ => by omega
  | _, 0, _, _ => fun _ _ h _ => by omega
  | f + 1, g + 1, c, n => fun hn hf hg hb => by
    rw [qd0, qgd]
    by_cases hk : begE c = true
    · rw [if_pos hk, if_pos hk]
      have ha := ql2 hx ih hn hb
      have hl := qqf hm hk
      have hml := qc1 hp c
      by_cases hs : (qbc rp c).2.isSome = true
      · rw [if_pos hs, qg3 ha hs, ← ha.1]
        have hlt := qh5 hp hs
        rw [← ha.1] at hl
        exact qn4 hp hm f g _ _ (hn.mon hml) (by omega) (by omega) (by omega)
      · rw [if_neg hs]
        have h3 := qgx ha hs
        rw [qh2 (by rw [← ha.1]; exact h3)]
        exact qdu ha.1 (fun h => by cases h) (fun _ => h3)
    · rw [if_neg hk, if_neg hk]
      exact qdu rfl (fun _ => rfl) (fun h => by cases h)
theorem qxt (hp : ∀ c, Mon c (rp c).1) (hm : ∀ c, Mon c (rr c).1) {c : K} (hn : NoEnd c) (hr : em c ≤ b) : qdl (toO (qfa rp c)) (qm5 rr c) := by
  unfold qfa qm5
  have ha := ql2 hx ih hn hr
  have hml := qc1 hp c
  have hme := (qia hm c).em
  by_cases hs : (qbc rp c).2.isSome = true
  · rw [if_pos hs, qg3 ha hs, ← ha.1]
    rw [← ha.1] at hme
    exact qn4 hx ih hp hm _ _ _ _ (hn.mon hml) (Nat.lt_succ_self _) (Nat.lt_succ_self _) (by omega)
  · rw [if_neg hs]
    have h3 := qgx ha hs
    rw [qh2 (by rw [← ha.1]; exact h3)]
    exact qdu ha.1 (fun h => by cases h) (fun _ => h3)
theorem qjb (x : List UInt8) : ∀ (f g : Nat) (c : K), NoEnd c → rest c < f → em c < g → em c < b → qdl (toO (qbs rp x f c)) (qyt rr x (qd1 g c []))
  | 0, _, _ => fun _ h _ _ => by omega
  | _, 0, _ => fun _ _ h _ => by omega
  | f + 1, g + 1, c => fun hn hf hg hb => by
    rw [qbs, qd1]
    by_cases hk : (qw c).kind = 1
    · rw [if_pos hk, if_pos hk, qja]
      have h1 := qbh (c := c) (by omega)
      have h2 := qkj (c := c) (by omega)
      have ha := qjb x f g (qs c) (hn.mon (qbm c)) (by omega) (by omega) (by omega)
      refine qdu (show (qbs rp x f (qs c)).1 = (qyt rr x (qd1 g (qs c) [])).1 from qls ha) (fun h => ?_) (fun h => qvr (p := qbs rp x f (qs c)) ha h)
      simp only
      rw [qvn (p := qbs rp x f (qs c)) ha h]
      rfl
    · rw [if_neg hk, if_neg hk]
      have hw := (qo c x).em
      unfold qyt
      simp only [qbpc, List.foldr_nil]
      by_cases hs : (qr c x).2 = true
      · rw [if_pos hs, q72]
        exact ih _ (hn.mon (qo c x)) (by omega)
      · rw [if_neg hs]
        have h3 := qdh (c := c) (x := x) (by simpa using hs)
        exact qdu (hx _ h3).symm (fun h => by cases h) (fun _ => h3)
theorem qt8 {c : K} (hn : NoEnd c) (hr : em c < b) : qdl (qbl rp c) (qf4 rr c) := by
  have hk1 := qdc c 1
  have e1 := hk1.em
  unfold qbl qf4
  by_cases hk : (kindK c 1).2 = true
  · rw [if_pos hk]
    by_cases ht : (qp (kindK c 1).1 [58, 58]).2 = true
    · rw [if_pos ht, if_pos ht]
      have hem := qxr (qp (kindK c 1).1 [58, 58]).1
      have ha := qx2 (rest (qp (kindK c 1).1 [58, 58]).1 + 2) (qp (kindK c 1).1 [58, 58]).1 (hn.mon (hk1.trans (q8 _ _))) (by omega)
      refine ⟨ha.1, fun n h => ?_, fun h => ha.2.2 (by simpa using h)⟩
      obtain ⟨q, hq, rfl⟩ := Option.map_eq_some_iff.1 h
      rw [ha.2.1 q hq]
    · rw [if_neg ht, if_neg ht]
      have ha := qjb hx ih [61] (rest (kindK c 1).1 + 1) (em (kindK c 1).1 + 1) (kindK c 1).1 (hn.mon hk1) (Nat.lt_succ_self _) (Nat.lt_succ_self _) (by omega)
      refine ⟨ha.1, fun n h => ?_, fun h => ha.2.2 (by simpa using h)⟩
      obtain ⟨q, hq, rfl⟩ := Option.map_eq_some_iff.1 h
      exact congrArg _ (ha.2.1 q hq)
  · rw [if_neg hk]
    have h3 := qw4 (c := c) (k := 1) (by simpa using hk)
    rw [qei h3, if_neg (by simp)]
    unfold qii qq7 qyt
    rw [qng h3]
    simp only
    rw [qbz h3, hx _ h3]
    exact ⟨rfl, (fun n h => by cases h), fun _ => h3⟩
omit ih in
theorem qr8 {c : K} (h : c.err ≠ 0) : (qf4 rr c).1 = c := by
  unfold qf4 qii qq7 qyt
  rw [q10 h, qei h, if_neg (by simp), qng h]
  simp only
  rw [qbz h, hx _ h]
end
/-- Rows in braces. -/
theorem qmh {rp : K → R3} {rr : K → K × N} {b : Nat} (hp : ∀ c, Mon c (rp c).1) (hm : ∀ c, Mon c (rr c).1) (hl : ∀ c, (rp c).2.2 = true → rest (rp c).1 < rest c) (ih : ∀ c, NoEnd c → em c < b → qdl (toO (rp c)) (rr c)) :
    ∀ (f g : Nat) (c : K) (acc : List N), NoEnd c → rest c < f → em c < g → em c < b →
      (qbe rp f c acc).1 = (qr (qdv rr g c acc).1 [125]).1 ∧ ((qbe rp f c acc).2.2 = true → (qbe rp f c acc).2.1 = (qdv rr g c acc).2) ∧ ((qbe rp f c acc).2.2 = false → (qbe rp f c acc).1.err ≠ 0)
  | 0, _, _, _ => fun _ h _ _ => by omega
  | _, 0, _, _ => fun _ _ h _ => by omega
  | f + 1, g + 1, c, acc => fun hn hf hg hb => by
    rw [qbe, qdv]
    have ha := ih c hn hb
    have e1 := (hm c).em
    have hmo : qmg (rp c).1 = ((qp (rp c).1 [59]).1, (qp (rp c).1 [59]).2 && !isK (qp (rp c).1 [59]).1 [125]) := rfl
    by_cases hs : (rp c).2.2 = true
    · rw [if_pos hs, qvn ha hs, ← qls ha, hmo]
      by_cases ht : ((qp (rp c).1 [59]).2 && !isK (qp (rp c).1 [59]).1 [125]) = true
      · rw [if_pos ht, if_pos ht]
        have h1 := hl c hs
        have h2 := (q8 (rp c).1 [59]).2.1
        have h3 : em (qp (rp c).1 [59]).1 < em (rp c).1 := qbeu (c := (rp c).1) ht
        have h4 := (hp c).em
        exact qmh hp hm hl ih f g _ _ (hn.mon ((hp c).trans (q8 _ _))) (by omega) (by omega) (by omega)
      · rw [if_neg ht, if_neg ht]
        refine ⟨rfl, fun _ => rfl, fun h => qdh h⟩
    · rw [if_neg hs]
      have h3 := qvr ha (by simpa using hs)
      rw [← qls ha]
      unfold qmg
      rw [qei h3, Bool.false_and, if_neg (by simp)]
      simp only
      rw [qbz h3]
      exact ⟨rfl, (fun h => by cases h), fun _ => h3⟩
theorem qos {rp : K → R3} {rr : K → K × N} {b : Nat} (hp : ∀ c, Mon c (rp c).1) (hm : ∀ c, Mon c (rr c).1) (hl : ∀ c, (rp c).2.2 = true → rest (rp c).1 < rest c) (hx : ∀ c : K, c.err ≠ 0 → (rr c).1 = c) (ih : ∀ c, NoEnd c → em c < b → qdl (toO (rp c)) (rr c))
    {c : K} (hn : NoEnd c) (hr : em c < b) : (qbj rp c).1 = (qr (qgc rr (qr c [123]).1).1 [125]).1 ∧ ((qbj rp c).2.2 = true → (qbj rp c).2.1 = (qgc rr (qr c [123]).1).2) ∧ ((qbj rp c).2.2 = false → (qbj rp c).1.err ≠ 0) := by
  unfold qbj qgc
  have e1 := (qo c [123]).em
  by_cases hs : (qr c [123]).2 = true
  · rw [if_pos hs]
    exact qmh hp hm hl ih _ _ _ _ (hn.mon (qo c _)) (Nat.lt_succ_self _) (by omega) (by omega)
  · rw [if_neg hs]
    have h3 := qdh (c := c) (x := [123]) (by simpa using hs)
    have h4 : (qdv rr (em (qr c [123]).1 + 2) (qr c [123]).1 []).1 = (qr c [123]).1 := by
      rw [qdv]
      unfold qmg
      rw [hx _ h3, qei h3, Bool.false_and, if_neg (by simp)]
    rw [h4, qbz h3]
    exact ⟨rfl, (fun h => by cases h), fun _ => h3⟩
section
variable {rp : K → K × Option N} {rr : K → K × N} {b : Nat} (hx : ∀ c : K, c.err ≠ 0 → (rr c).1 = c) (ih : ∀ c, NoEnd c → em c < b → qdl (rp c) (rr c)) (hp : ∀ c, Mon c (rp c).1) (hm : ∀ c, Mon c (rr c).1)
include hx ih hp hm
theorem qx0 (p : Int) {c : K} (hn : NoEnd c) (hr : em c < b) : qdl (toO (qfq rp p c)) (qq4 rr p c) := by
  have hl := qos (b := b) (rp := fun c => ofO (qbl rp c)) (rr := qf4 rr) (fun c => qet hp c) (qky hm) (fun c h => qkt hp h) (fun c h => qr8 hx h) (fun c h1 h2 => by rw [q72]; exact qt8 hx ih h1 h2) hn hr
  have hml := qfr (rd := fun c => ofO (qbl rp c)) (fun c => qet hp c) c
  unfold qfq qq4 letB letC qzy
  generalize qbj (fun c => ofO (qbl rp c)) c = L at *
  obtain ⟨d, l, ok⟩ := L
  simp only at hl hml ⊢
  rw [← hl.1]
  have e1 := hml.em
  have e2 := (qo d [105, 110]).em
  cases ok with
  | false =>
    have h3 := hl.2.2 rfl
    rw [if_neg (by simp), qbz h3, hx _ h3]
    exact qdu rfl (fun h => by cases h) (fun _ => h3)
  | true =>
    rw [if_pos rfl, hl.2.1 rfl]
    by_cases hw : (qr d [105, 110]).2 = true
    · rw [if_pos hw]
      have ha := ih (qr d [105, 110]).1 (hn.mon (hml.trans (qo _ _))) (by omega)
      refine qdu ha.1 (fun h => ?_) (fun h => qgx ha (by simpa using h))
      simp only
      rw [qg3 ha h]
    · rw [if_neg hw]
      have h3 := qdh (c := d) (x := [105, 110]) (by simpa using hw)
      exact qdu (hx _ h3).symm (fun h => by cases h) (fun _ => h3)
omit hp hm in
theorem qyn {c : K} (hn : NoEnd c) (hr : em c < b) : qdl (toO (qdk rp c)) (qha rr c) := by
  have hpa := qv4 (rest c + 2) c (by have := qxr c; omega)
  have hmp := qd8 (rest c + 2) c
  unfold qdk qha altB altC quu
  generalize qb1 (rest c + 2) c = q at *
  have e1 := hmp.em
  have e2 := (qo q.1 [45, 62]).em
  rw [← hpa.1]
  by_cases hs : q.2.isSome = true
  · rw [if_pos hs, qg3 hpa hs]
    by_cases hw : (qr q.1 [45, 62]).2 = true
    · rw [if_pos hw]
      have ha := ih (qr q.1 [45, 62]).1 (hn.mon (hmp.trans (qo _ _))) (by omega)
      refine qdu ha.1 (fun h => ?_) (fun h => qgx ha (by simpa using h))
      simp only
      rw [qg3 ha h]
    · rw [if_neg hw]
      have h3 := qdh (c := q.1) (x := [45, 62]) (by simpa using hw)
      exact qdu (hx _ h3).symm (fun h => by cases h) (fun _ => h3)
  · rw [if_neg hs]
    have h3 := qgx hpa hs
    rw [qbz h3, hx _ h3]
    exact qdu rfl (fun h => by cases h) (fun _ => h3)
omit ih hp hm in
theorem qni {c : K} (h : c.err ≠ 0) : (qha rr c).1 = c := by
  unfold qha quu
  rw [qrk _ h]
  simp only
  rw [qbz h, hx _ h]
theorem quf (p : Int) {c : K} (hn : NoEnd c) (hr : em c < b) : qdl (toO (qeg rp p c)) (qlx rr p c) := by
  have hc := ih c hn hr
  have hmc := hp c
  unfold qeg qlx qu9 qtt qwh
  generalize rp c = q at *
  have e1 := hmc.em
  have e2 := (qo q.1 [111, 102]).em
  rw [← hc.1]
  have herr : ∀ d : K, d.err ≠ 0 → (qr (qgc (qha rr) (qr (qr d [111, 102]).1 [123]).1).1 [125]).1 = d := fun d h3 => by
    have h4 : (qgc (qha rr) d).1 = d := by
      unfold qgc
      rw [qdv]
      unfold qmg
      rw [qni hx h3, qei h3, Bool.false_and, if_neg (by simp)]
    rw [qbz h3, qbz h3, h4, qbz h3]
  by_cases hs : q.2.isSome = true
  · rw [if_pos hs, qg3 hc hs]
    by_cases hw : (qr q.1 [111, 102]).2 = true
    · rw [if_pos hw]
      have hl := qos (b := b) (rp := qdk rp) (rr := qha rr) (fun c => qke hp c) (qmd hm) (fun c h => qnq hp h) (fun c h => qni hx h) (fun c h1 h2 => qyn hx ih h1 h2) (hn.mon (hmc.trans (qo q.1 [111, 102]))) (by omega)
      exact qdu hl.1 (fun h => by simp only; rw [hl.2.1 h]) (fun h => hl.2.2 h)
    · rw [if_neg hw]
      have h3 := qdh (c := q.1) (x := [111, 102]) (by simpa using hw)
      refine qdu ?_ (fun h => by cases h) (fun _ => h3)
      have := herr _ h3
      rw [qbz h3] at this
      exact this.symm
  · rw [if_neg hs]
    have h3 := qgx hc hs
    exact qdu (herr _ h3).symm (fun h => by cases h) (fun _ => h3)
omit hm in
theorem qyl (p : Int) {c : K} (hn : NoEnd c) (hr : em c < b) : qdl (toO (qc9 rp p ifsW c [])) (qqt rr p c) := by
  have h1 := ih c hn hr
  have m1 := hp c
  unfold ifsW qqt q74
  rw [qc9, show ifsK c [] = (c, true) from rfl, if_pos rfl]
  simp only
  generalize rp c = q1 at *
  have e1 := m1.em
  have e2 := (qo q1.1 [116, 104, 101, 110]).em
  rw [← h1.1]
  have herr2 : ∀ (d : K) (a bb : K × N), d.err ≠ 0 → bb.1 = d → (qr3 rr p a bb).1 = d := fun d a bb h3 hb => by
    unfold qr3 q0q
    simp only
    rw [hb, qbz h3, hx _ h3]
  have herr1 : ∀ (d : K) (a : K × N), d.err ≠ 0 → (qr3 rr p a (rr (qr d [116, 104, 101, 110]).1)).1 = d := fun d a h3 => herr2 d a _ h3 (by rw [qbz h3, hx _ h3])
  by_cases s1 : q1.2.isSome = true
  · rw [if_pos s1, qg3 h1 s1]
    rw [qc9, show ifsK q1.1 [116, 104, 101, 110] = qr q1.1 [116, 104, 101, 110] from if_neg (by simp)]
    by_cases w2 : (qr q1.1 [116, 104, 101, 110]).2 = true
    · rw [if_pos w2]
      have h2 := ih (qr q1.1 [116, 104, 101, 110]).1 (hn.mon (m1.trans (qo _ _))) (by omega)
      have m2 := hp (qr q1.1 [116, 104, 101, 110]).1
      generalize rp (qr q1.1 [116, 104, 101, 110]).1 = q2 at *
      have e3 := m2.em
      have e4 := (qo q2.1 [101, 108, 115, 101]).em
      by_cases s2 : q2.2.isSome = true
      · rw [if_pos s2, qg3 h2 s2]
        rw [qc9, show ifsK q2.1 [101, 108, 115, 101] = qr q2.1 [101, 108, 115, 101] from if_neg (by simp)]
        unfold qr3 q0q
        rw [← h2.1]
        by_cases w3 : (qr q2.1 [101, 108, 115, 101]).2 = true
        · rw [if_pos w3]
          have h4 := ih (qr q2.1 [101, 108, 115, 101]).1 (hn.mon (((m1.trans (qo _ _)).trans m2).trans (qo _ _))) (by omega)
          generalize rp (qr q2.1 [101, 108, 115, 101]).1 = q3 at *
          by_cases s3 : q3.2.isSome = true
          · rw [if_pos s3, qg3 h4 s3, qc9]
            exact qdu h4.1 (fun _ => rfl) (fun h => by cases h)
          · rw [if_neg s3]
            exact qdu h4.1 (fun h => by cases h) (fun _ => qgx h4 s3)
        · rw [if_neg w3]
          have h3 := qdh (c := q2.1) (x := [101, 108, 115, 101]) (by simpa using w3)
          exact qdu (hx _ h3).symm (fun h => by cases h) (fun _ => h3)
      · rw [if_neg s2]
        have h3 := qgx h2 s2
        exact qdu (herr2 _ _ _ h3 h2.1.symm).symm (fun h => by cases h) (fun _ => h3)
    · rw [if_neg w2]
      have h3 := qdh (c := q1.1) (x := [116, 104, 101, 110]) (by simpa using w2)
      exact qdu (herr2 _ _ _ h3 (hx _ h3)).symm (fun h => by cases h) (fun _ => h3)
  · rw [if_neg s1]
    have h3 := qgx h1 s1
    exact qdu (herr1 _ _ h3).symm (fun h => by cases h) (fun _ => h3)
theorem qux {c : K} (hn : NoEnd c) (hr : em c ≤ b) : qdl (toO (qcf rp c)) (qf8 rr c) := by
  unfold qcf qf8
  by_cases t1 : (qp c [92]).2 = true
  · rw [if_pos t1, if_pos t1]
    have e1 := qhm t1
    unfold qqk
    by_cases hk : (qw (qp c [92]).1).kind = 1
    · rw [if_pos hk, if_pos hk]
      exact qjb hx ih _ _ _ _ (hn.mon (q8 _ _)) (Nat.lt_succ_self _) (Nat.lt_succ_self _) (by omega)
    · rw [if_neg hk, if_neg hk]
      exact qdu rfl (fun h => by cases h) (fun _ => qg6 _)
  · rw [if_neg t1, if_neg t1]
    by_cases t2 : (qp c [108, 101, 116]).2 = true
    · rw [if_pos t2, if_pos t2]
      have e1 := qhm t2
      exact qx0 hx ih hp hm _ (hn.mon (q8 _ _)) (by omega)
    · rw [if_neg t2, if_neg t2]
      by_cases t3 : (qp c [99, 97, 115, 101]).2 = true
      · rw [if_pos t3, if_pos t3]
        have e1 := qhm t3
        exact quf hx ih hp hm _ (hn.mon (q8 _ _)) (by omega)
      · rw [if_neg t3, if_neg t3]
        by_cases t4 : (qp c [105, 102]).2 = true
        · rw [if_pos t4, if_pos t4]
          have e1 := qhm t4
          exact qyl hx ih hp _ (hn.mon (q8 _ _)) (by omega)
        · rw [if_neg t4, if_neg t4]
          exact qxt hx ih hp hm hn hr
end
theorem qkz {rr : K → K × N} {c : K} (h : c.err ≠ 0) : (qf8 rr c).1 = c := by
  unfold qf8
  rw [qei h, qei h, qei h, qei h]
  simp only [Bool.false_eq_true, if_false]
  unfold qm5
  rw [qrx h, qh2 h]
theorem qxp (f : Nat) {c : K} (h : c.err ≠ 0) : (qlb f c).1 = c := by
  cases f with
  | zero => rfl
  | succ f =>
    rw [qlb, qih h]
    simp only
    rw [qkz h, qb3 h]
theorem qtm : ∀ (f : Nat) (c : K), NoEnd c → em c < f → qdl (qbp f c) (qlb f c)
  | 0, _ => fun _ h => by omega
  | f + 1, c => fun hn hf => by
    have hx : ∀ c : K, c.err ≠ 0 → (qlb f c).1 = c := fun c h => qxp f h
    have e1 := (qx c).em
    rw [qbp, qlb]
    by_cases he : (qe c).2 = true
    · rw [if_pos he]
      have ha := qux hx (qtm f) (qey f) (qpf f) (c := (qe c).1) (hn.mon (qx c)) (by omega)
      refine ⟨?_, ha.2.1, fun h => ?_⟩
      · simp only
        rw [← qls ha]
      · have h3 : (qcf (qbp f) (qe c).1).1.err ≠ 0 := ha.2.2 h
        simp only
        rw [qb3 h3]
        exact h3
    · rw [if_neg he]
      have h3 := qe3 (c := c) (by simpa using he)
      refine ⟨?_, (fun n h => by cases h), fun _ => h3⟩
      simp only
      rw [qkz h3, qb3 h3]
end Go.Proofs.Ytmekebfgmjaenaa
