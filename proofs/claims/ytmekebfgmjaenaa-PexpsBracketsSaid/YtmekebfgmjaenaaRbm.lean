/- Texts of this proof, joined. -/
import Derived.Test.YtmekebfgmjaenaaRbg
import Derived.Test.YtmekebfgmjaenaaRbl

/- expressions: the reference: what it reads -/
namespace Go.Proofs.Ytmekebfgmjaenaa
open Go Go.RowKit Go.V
set_option linter.unusedVariables false
set_option linter.unusedSimpArgs false

theorem q4n {c : K} (h : begE c = true) : c.err = 0 := (qff (qnd h)).1
theorem qvo {c : K} (h : c.err ≠ 0) : begE c = false := by
  cases hb : begE c with
  | false => rfl
  | true => exact absurd (q4n hb) h
def qdr (rec : K → K × N) (c : K) : K × N :=
  if begE c = true then
    if isK c [40] = true then (qbn (qq (rec (qq (qe c).1 [40]).1).1 [41]).1, (rec (qq (qe c).1 [40]).1).2)
    else (qt c, (leafE c).getD N0)
  else (qee c 5, N0)
def qf0 (rec : K → K × N) : Nat → K → N → K × N
  | 0, c, n => (c, n)
  | f + 1, c, n => if begE c = true then qf0 rec f (qdr rec c).1 (appN n (qdr rec c).2) else (c, n)
def qnj (rec : K → K × N) (c : K) : K × N := qf0 rec (em (qdr rec c).1 + 1) (qdr rec c).1 (qdr rec c).2
def qbjz (l : List T) (n : N) : N := l.foldr lamN n
def qd2 : Nat → K → List T → K × List T
  | 0, c, acc => (c, acc)
  | f + 1, c, acc => if (qw c).kind = 1 then qd2 f (qt c) (acc ++ [qw c]) else (c, acc)
def qqb (c : K) : K × List T := qd2 (em c + 1) c []
def qwz (rec : K → K × N) (x : List UInt8) (v : K × List T) : K × N := ((rec (qq v.1 x).1).1, qbjz v.2 (rec (qq v.1 x).1).2)
def qid (rec : K → K × N) (x : List UInt8) (c : K) : K × N := qwz rec x (qqb c)
def qpx (rec : K → K × N) (c : K) : K × N := if (qw c).kind = 1 then qid rec [45, 62] c else (qee c 5, N0)
def qfw (rec : K → K × N) (c : K) : K × N :=
  if (qp (kindK c 1).1 [58, 58]).2 = true then
    ((qq8 (rest (qp (kindK c 1).1 [58, 58]).1 + 2) (qp (kindK c 1).1 [58, 58]).1).1, qrf 32 (qg9 c 1) (qq8 (rest (qp (kindK c 1).1 [58, 58]).1 + 2) (qp (kindK c 1).1 [58, 58]).1).2)
  else ((qid rec [61] (kindK c 1).1).1, qrf 31 (qg9 c 1) (qid rec [61] (kindK c 1).1).2)
def qnx (c : K) : K × Bool := ((qp c [59]).1, (qp c [59]).2 && !isK (qp c [59]).1 [125])
def qdt (rd : K → K × N) : Nat → K → List N → K × List N
  | 0, c, acc => (c, acc)
  | f + 1, c, acc => if (qnx (rd c).1).2 = true then qdt rd f (qnx (rd c).1).1 (acc ++ [(rd c).2]) else ((qnx (rd c).1).1, acc ++ [(rd c).2])
def qf5 (rd : K → K × N) (c : K) : K × List N := qdt rd (em c + 2) c []
def qz1 (rec : K → K × N) (p : Int) (L : K × List N) : K × N :=
  ((rec (qq (qq L.1 [125]).1 [105, 110]).1).1, .mk 26 p 0 [] (L.2 ++ [(rec (qq (qq L.1 [125]).1 [105, 110]).1).2]))
def qqd (rec : K → K × N) (p : Int) (c : K) : K × N := qz1 rec p (qf5 (qfw rec) (qq c [123]).1)
def qtv (rec : K → K × N) (p : K × N) : K × N := ((rec (qq p.1 [45, 62]).1).1, altN p.2 (rec (qq p.1 [45, 62]).1).2)
def qgt (rec : K → K × N) (c : K) : K × N := qtv rec (qj2 (rest c + 2) c)
def qvv (p : Int) (x : N) (L : K × List N) : K × N := ((qq L.1 [125]).1, .mk 27 p 0 [] (x :: L.2))
def qll (rec : K → K × N) (p : Int) (c : K) : K × N := qvv p (rec c).2 (qf5 (qgt rec) (qq (qq (rec c).1 [111, 102]).1 [123]).1)
def qzw (p : Int) (a b d : K × N) : K × N := (d.1, .mk 28 p 0 [] [a.2, b.2, d.2])
def qr7 (rec : K → K × N) (p : Int) (a b : K × N) : K × N := qzw p a b (rec (qq b.1 [101, 108, 115, 101]).1)
def q65 (rec : K → K × N) (p : Int) (a : K × N) : K × N := qr7 rec p a (rec (qq a.1 [116, 104, 101, 110]).1)
def qqn (rec : K → K × N) (p : Int) (c : K) : K × N := q65 rec p (rec c)
def qf8 (rec : K → K × N) (c : K) : K × N :=
  if (qp c [92]).2 = true then qpx rec (qp c [92]).1
  else if (qp c [108, 101, 116]).2 = true then qqd rec (qw c).pos (qp c [108, 101, 116]).1
  else if (qp c [99, 97, 115, 101]).2 = true then qll rec (qw c).pos (qp c [99, 97, 115, 101]).1
  else if (qp c [105, 102]).2 = true then qqn rec (qw c).pos (qp c [105, 102]).1
  else qnj rec c
def qk5 : Nat → K → K × N
  | 0, c => (c, N0)
  | f + 1, c => (qbn (qf8 (qk5 f) (qe c).1).1, (qf8 (qk5 f) (qe c).1).2)

theorem qni : ∀ (f : Nat) (c : K) (acc : List T), Mon c (qd2 f c acc).1
  | 0, c, acc => Mon.refl c
  | f + 1, c, acc => by
    rw [qd2]
    split
    · exact (qbm c).trans (qni f _ _)
    · exact Mon.refl c
theorem qwo (c : K) : Mon c (qnx c).1 := q6 c _
section
variable {rec : K → K × N} (hm : ∀ c, Mon c (rec c).1)
include hm
theorem qhv (c : K) : Mon c (qdr rec c).1 := by
  unfold qdr
  split
  · split
    · exact ((qv c).trans (qo _ _)).trans (qlg hm c)
    · exact qbm c
  · exact qd7 c 5
theorem qq4 {c : K} (h : begE c = true) : em (qdr rec c).1 < em c := by
  unfold qdr
  rw [if_pos h]
  split
  · have h1 := qig (c := c) (by assumption)
    have h2 := (qlg hm c).em
    simp only; omega
  · exact qkf (qnd h)
theorem qkn : ∀ (f : Nat) (c : K) (n : N), Mon c (qf0 rec f c n).1
  | 0, c, n => Mon.refl c
  | f + 1, c, n => by
    rw [qf0]
    split
    · exact (qhv hm c).trans (qkn f _ _)
    · exact Mon.refl c
theorem quu (c : K) : Mon c (qnj rec c).1 := (qhv hm c).trans (qkn hm _ _ _)
theorem qk1 (x : List UInt8) (c : K) : Mon c (qid rec x c).1 := ((qni _ _ _).trans (qo _ x)).trans (hm _)
theorem qvb (c : K) : Mon c (qpx rec c).1 := by
  unfold qpx
  split
  · exact qk1 hm _ c
  · exact qd7 c 5
theorem qkp (c : K) : Mon c (qfw rec c).1 := by
  unfold qfw
  split
  · exact ((qc8 c 1).trans (q6 _ _)).trans ((qkq (qd5 _) _).trans (qd5 _ _))
  · exact (qc8 c 1).trans (qk1 hm _ _)
omit hm in
theorem qg1 {rd : K → K × N} (hd : ∀ c, Mon c (rd c).1) : ∀ (f : Nat) (c : K) (acc : List N), Mon c (qdt rd f c acc).1
  | 0, c, acc => Mon.refl c
  | f + 1, c, acc => by
    rw [qdt]
    split
    · exact ((hd c).trans (qwo _)).trans (qg1 hd f _ _)
    · exact (hd c).trans (qwo _)
theorem qt7 (p : Int) (c : K) : Mon c (qqd rec p c).1 := ((((qo c _).trans (qg1 (qkp hm) _ _ _)).trans (qo _ _)).trans (qo _ _)).trans (hm _)
theorem qmm (c : K) : Mon c (qgt rec c).1 := ((qjs _ c).trans (qo _ _)).trans (hm _)
theorem qso (p : Int) (c : K) : Mon c (qll rec p c).1 := ((((hm c).trans (qo _ _)).trans (qo _ _)).trans (qg1 (qmm hm) _ _ _)).trans (qo _ _)
theorem quw (p : Int) (c : K) : Mon c (qqn rec p c).1 := ((((hm c).trans (qo _ _)).trans (hm _)).trans (qo _ _)).trans (hm _)
theorem qrr (c : K) : Mon c (qf8 rec c).1 := by
  unfold qf8
  split
  · exact (q6 c _).trans (qvb hm _)
  · split
    · exact (q6 c _).trans (qt7 hm _ _)
    · split
      · exact (q6 c _).trans (qso hm _ _)
      · split
        · exact (q6 c _).trans (quw hm _ _)
        · exact quu hm c
end
theorem qpq : ∀ (f : Nat) (c : K), Mon c (qk5 f c).1
  | 0, c => Mon.refl c
  | f + 1, c => ((qv c).trans (qrr (qpq f) _)).trans (qbc _)

/-! The program. -/


theorem q8v {c : K} (h : (qnx c).2 = true) : em (qnx c).1 < em c := by
  unfold qnx at h ⊢
  simp only [Bool.and_eq_true] at h
  exact qhj h.1



def NoEnd (c : K) : Prop := ∀ t ∈ c.l, t.kind ≠ 0
theorem NoEnd.mon {c c' : K} (h : NoEnd c) (m : Mon c c') : NoEnd c' := by unfold NoEnd; rw [m.2.2.2]; exact h
theorem q7g (r : K × Option N) : toO (ofO r) = r := by
  obtain ⟨c, o⟩ := r
  cases o <;> rfl
theorem qdu {p : R3} {r : K × N} (h1 : p.1 = r.1) (h2 : p.2.2 = true → p.2.1 = r.2) (h3 : p.2.2 = false → p.1.err ≠ 0) : qdn (toO p) r := by
  obtain ⟨d, n, ok⟩ := p
  cases ok with
  | false => exact ⟨h1, (fun n h => by cases h), fun _ => h3 rfl⟩
  | true => exact ⟨h1, (fun n h => by cases h; exact h2 rfl), (fun h => by cases h)⟩
theorem qlq {p : R3} {r : K × N} (h : qdn (toO p) r) : p.1 = r.1 := h.1
theorem qv9 {p : R3} {r : K × N} (h : qdn (toO p) r) (hs : p.2.2 = true) : p.2.1 = r.2 := h.2.1 _ (by unfold toO; simp only; rw [if_pos hs])
theorem qwk {p : R3} {r : K × N} (h : qdn (toO p) r) (hs : p.2.2 = false) : p.1.err ≠ 0 := h.2.2 (by unfold toO; simp only; rw [if_neg (by rw [hs]; simp)])
theorem qg2 {p : K × Option N} {r : K × N} (h : qdn p r) (hs : ¬ p.2.isSome = true) : p.1.err ≠ 0 := h.2.2 (by
  cases ho : p.2 with
  | none => rfl
  | some n => rw [ho] at hs; exact absurd rfl hs)
theorem qg0 {p : K × Option N} {r : K × N} (h : qdn p r) (hs : p.2.isSome = true) : p.2.getD N0 = r.2 := by
  obtain ⟨n, hn⟩ := Option.isSome_iff_exists.1 hs
  rw [hn]
  exact h.2.1 n hn
theorem qs8 {rec : K → K × N} {c : K} (h : c.err ≠ 0) : qdr rec c = (c, N0) := by
  rw [qdr, if_neg (by rw [qvo h]; simp), qex h]
theorem qhn {rec : K → K × N} {c : K} (h : c.err ≠ 0) (f : Nat) (n : N) : qf0 rec f c n = (c, n) := by
  cases f with
  | zero => rfl
  | succ f => rw [qf0, if_neg (by rw [qvo h]; simp)]
theorem qny {c : K} (h : c.err ≠ 0) (f : Nat) (acc : List T) : qd2 f c acc = (c, acc) := by
  cases f with
  | zero => rfl
  | succ f => rw [qd2, qfo h, if_neg (by decide)]
theorem q2r {c : K} {k : Int} (h : c.err ≠ 0) : kindK c k = (c, false) := by rw [qts h, qex h]
theorem qit : ∀ (f : Nat) (c : K) (acc : List T), qd2 f c acc = ((qd2 f c []).1, acc ++ (qd2 f c []).2)
  | 0, c, acc => by simp [qd2]
  | f + 1, c, acc => by
    rw [qd2, qd2]
    split
    · rw [qit f _ (acc ++ [qw c]), qit f _ ([] ++ [qw c])]
      simp
    · simp
section
variable {rp : K → K × Option N} {rr : K → K × N} {b : Nat} (hx : ∀ c : K, c.err ≠ 0 → (rr c).1 = c) (ih : ∀ c, NoEnd c → em c < b → qdn (rp c) (rr c))
include hx ih
theorem qm9 {c : K} (hn : NoEnd c) (hr : em c ≤ b) : qdn (q8 rp c) (qdr rr c) := by
  unfold q8 qdr
  by_cases hl : (leafE c).isSome = true
  · have hk : ¬ isK c [40] = true := by
      intro h
      obtain ⟨n, hn⟩ := Option.isSome_iff_exists.1 hl
      simp only [isK, qe6, Bool.and_eq_true, Bool.or_eq_true, decide_eq_true_eq] at h
      unfold leafE at hn
      rw [if_neg (by omega), if_neg (by omega), if_neg (by omega)] at hn
      cases hn
    rw [if_pos hl, if_pos (show begE c = true by simp [begE, hl]), if_neg hk]
    exact ⟨rfl, fun n h => by simp only at h ⊢; rw [h]; rfl, fun h => by simp only at h; rw [h] at hl; cases hl⟩
  · rw [if_neg hl]
    by_cases hk : isK c [40] = true
    · rw [if_pos hk, if_pos (show begE c = true by simp [begE, hk]), if_pos hk]
      have hem := qig hk
      by_cases he : (qe c).2 = true
      · rw [if_pos he]
        have hk' : isK (qe c).1 [40] = true := by rw [qlt he]; exact hk
        rw [qg3 hk'] at hem ⊢
        simp only at hem ⊢
        obtain ⟨a1, a2, a3⟩ := ih (qt (qe c).1) (hn.mon ((qv c).trans (qbm _))) (by omega)
        rw [← a1]
        generalize rp (qt (qe c).1) = r at *
        obtain ⟨d, o⟩ := r
        simp only at a1 a2 a3 ⊢
        cases o with
        | none =>
          have h3 := a3 rfl
          rw [if_neg (by simp), qbv h3, qb1 h3]
          exact ⟨rfl, (fun n h => by cases h), fun _ => h3⟩
        | some n =>
          rw [if_pos (by rfl)]
          by_cases hw : (qq d [41]).2 = true
          · rw [if_pos hw]
            exact ⟨rfl, fun m h => a2 m h, (fun h => by cases h)⟩
          · rw [if_neg hw]
            have h3 := qdg (by simpa using hw)
            exact ⟨(qb1 h3).symm, (fun n h => by cases h), fun _ => h3⟩
      · have he' : (qe c).2 = false := by simpa using he
        have h1 := qet he'
        rw [if_neg he]
        rw [qbv h1] at hem ⊢
        simp only at hem ⊢
        rw [hx _ h1, qbv h1, qb1 h1]
        exact ⟨rfl, (fun n h => by cases h), fun _ => h1⟩
    · rw [if_neg hk, if_neg (show ¬ begE c = true by simp [begE, hl, hk])]
      exact ⟨rfl, (fun n h => by cases h), fun _ => qgz c⟩
theorem qm5 (hp : ∀ c, Mon c (rp c).1) (hm : ∀ c, Mon c (rr c).1) : ∀ (f g : Nat) (c : K) (n : N), NoEnd c → rest c < f → em c < g → em c ≤ b → qdn (toO (qdj rp f c n)) (qf0 rr g c n)
  | 0, _, _, _ => fun _ h _ _ => by omega
  | _, 0, _, _ => fun _ _ h _ => by omega
  | f + 1, g + 1, c, n => fun hn hf hg hb => by
    rw [qdj, qf0]
    by_cases hk : begE c = true
    · rw [if_pos hk, if_pos hk]
      have ha := qm9 hx ih hn hb
      have hl := qq4 hm hk
      have hml := qcz hp c
      by_cases hs : (q8 rp c).2.isSome = true
      · rw [if_pos hs, qg0 ha hs, ← ha.1]
        have hlt := qha hp hs
        rw [← ha.1] at hl
        exact qm5 hp hm f g _ _ (hn.mon hml) (by omega) (by omega) (by omega)
      · rw [if_neg hs]
        have h3 := qg2 ha hs
        rw [qhn (by rw [← ha.1]; exact h3)]
        exact qdu ha.1 (fun h => by cases h) (fun _ => h3)
    · rw [if_neg hk, if_neg hk]
      exact qdu rfl (fun _ => rfl) (fun h => by cases h)
theorem qxu (hp : ∀ c, Mon c (rp c).1) (hm : ∀ c, Mon c (rr c).1) {c : K} (hn : NoEnd c) (hr : em c ≤ b) : qdn (toO (qeg rp c)) (qnj rr c) := by
  unfold qeg qnj
  have ha := qm9 hx ih hn hr
  have hml := qcz hp c
  have hme := (qhv hm c).em
  by_cases hs : (q8 rp c).2.isSome = true
  · rw [if_pos hs, qg0 ha hs, ← ha.1]
    rw [← ha.1] at hme
    exact qm5 hx ih hp hm _ _ _ _ (hn.mon hml) (Nat.lt_succ_self _) (Nat.lt_succ_self _) (by omega)
  · rw [if_neg hs]
    have h3 := qg2 ha hs
    rw [qhn (by rw [← ha.1]; exact h3)]
    exact qdu ha.1 (fun h => by cases h) (fun _ => h3)
theorem qiw (x : List UInt8) : ∀ (f g : Nat) (c : K), NoEnd c → rest c < f → em c < g → em c < b → qdn (toO (qby rp x f c)) (qwz rr x (qd2 g c []))
  | 0, _, _ => fun _ h _ _ => by omega
  | _, 0, _ => fun _ _ h _ => by omega
  | f + 1, g + 1, c => fun hn hf hg hb => by
    rw [qby, qd2]
    by_cases hk : (qw c).kind = 1
    · rw [if_pos hk, if_pos hk, qit]
      have h1 := qbg (c := c) (by omega)
      have h2 := qkf (c := c) (by omega)
      have ha := qiw x f g (qt c) (hn.mon (qbm c)) (by omega) (by omega) (by omega)
      refine qdu (show (qby rp x f (qt c)).1 = (qwz rr x (qd2 g (qt c) [])).1 from qlq ha) (fun h => ?_) (fun h => qwk (p := qby rp x f (qt c)) ha h)
      simp only
      rw [qv9 (p := qby rp x f (qt c)) ha h]
      rfl
    · rw [if_neg hk, if_neg hk]
      have hw := (qo c x).em
      unfold qwz
      simp only [qbjz, List.foldr_nil]
      by_cases hs : (qq c x).2 = true
      · rw [if_pos hs, q7g]
        exact ih _ (hn.mon (qo c x)) (by omega)
      · rw [if_neg hs]
        have h3 := qdg (c := c) (x := x) (by simpa using hs)
        exact qdu (hx _ h3).symm (fun h => by cases h) (fun _ => h3)
theorem qup {c : K} (hn : NoEnd c) (hr : em c < b) : qdn (qbq rp c) (qfw rr c) := by
  have hk1 := qc8 c 1
  have e1 := hk1.em
  unfold qbq qfw
  by_cases hk : (kindK c 1).2 = true
  · rw [if_pos hk]
    by_cases ht : (qp (kindK c 1).1 [58, 58]).2 = true
    · rw [if_pos ht, if_pos ht]
      have hem := qxv (qp (kindK c 1).1 [58, 58]).1
      have ha := qw7 (rest (qp (kindK c 1).1 [58, 58]).1 + 2) (qp (kindK c 1).1 [58, 58]).1 (hn.mon (hk1.trans (q6 _ _))) (by omega)
      refine ⟨ha.1, fun n h => ?_, fun h => ha.2.2 (by simpa using h)⟩
      obtain ⟨q, hq, rfl⟩ := Option.map_eq_some_iff.1 h
      rw [ha.2.1 q hq]
    · rw [if_neg ht, if_neg ht]
      have ha := qiw hx ih [61] (rest (kindK c 1).1 + 1) (em (kindK c 1).1 + 1) (kindK c 1).1 (hn.mon hk1) (Nat.lt_succ_self _) (Nat.lt_succ_self _) (by omega)
      refine ⟨ha.1, fun n h => ?_, fun h => ha.2.2 (by simpa using h)⟩
      obtain ⟨q, hq, rfl⟩ := Option.map_eq_some_iff.1 h
      exact congrArg _ (ha.2.1 q hq)
  · rw [if_neg hk]
    have h3 := qv3 (c := c) (k := 1) (by simpa using hk)
    rw [qen h3, if_neg (by simp)]
    unfold qid qqb qwz
    rw [qny h3]
    simp only
    rw [qbv h3, hx _ h3]
    exact ⟨rfl, (fun n h => by cases h), fun _ => h3⟩
omit ih in
theorem qtf {c : K} (h : c.err ≠ 0) : (qfw rr c).1 = c := by
  unfold qfw qid qqb qwz
  rw [q2r h, qen h, if_neg (by simp), qny h]
  simp only
  rw [qbv h, hx _ h]
end
/-- Rows in braces. -/
theorem qnl {rp : K → R3} {rr : K → K × N} {b : Nat} (hp : ∀ c, Mon c (rp c).1) (hm : ∀ c, Mon c (rr c).1) (hl : ∀ c, (rp c).2.2 = true → rest (rp c).1 < rest c) (ih : ∀ c, NoEnd c → em c < b → qdn (toO (rp c)) (rr c)) :
    ∀ (f g : Nat) (c : K) (acc : List N), NoEnd c → rest c < f → em c < g → em c < b →
      (qbr rp f c acc).1 = (qq (qdt rr g c acc).1 [125]).1 ∧ ((qbr rp f c acc).2.2 = true → (qbr rp f c acc).2.1 = (qdt rr g c acc).2) ∧ ((qbr rp f c acc).2.2 = false → (qbr rp f c acc).1.err ≠ 0)
  | 0, _, _, _ => fun _ h _ _ => by omega
  | _, 0, _, _ => fun _ _ h _ => by omega
  | f + 1, g + 1, c, acc => fun hn hf hg hb => by
    rw [qbr, qdt]
    have ha := ih c hn hb
    have e1 := (hm c).em
    have hmo : qnx (rp c).1 = ((qp (rp c).1 [59]).1, (qp (rp c).1 [59]).2 && !isK (qp (rp c).1 [59]).1 [125]) := rfl
    by_cases hs : (rp c).2.2 = true
    · rw [if_pos hs, qv9 ha hs, ← qlq ha, hmo]
      by_cases ht : ((qp (rp c).1 [59]).2 && !isK (qp (rp c).1 [59]).1 [125]) = true
      · rw [if_pos ht, if_pos ht]
        have h1 := hl c hs
        have h2 := (q6 (rp c).1 [59]).2.1
        have h3 : em (qp (rp c).1 [59]).1 < em (rp c).1 := q8v (c := (rp c).1) ht
        have h4 := (hp c).em
        exact qnl hp hm hl ih f g _ _ (hn.mon ((hp c).trans (q6 _ _))) (by omega) (by omega) (by omega)
      · rw [if_neg ht, if_neg ht]
        refine ⟨rfl, fun _ => rfl, fun h => qdg h⟩
    · rw [if_neg hs]
      have h3 := qwk ha (by simpa using hs)
      rw [← qlq ha]
      unfold qnx
      rw [qen h3, Bool.false_and, if_neg (by simp)]
      simp only
      rw [qbv h3]
      exact ⟨rfl, (fun h => by cases h), fun _ => h3⟩
theorem qom {rp : K → R3} {rr : K → K × N} {b : Nat} (hp : ∀ c, Mon c (rp c).1) (hm : ∀ c, Mon c (rr c).1) (hl : ∀ c, (rp c).2.2 = true → rest (rp c).1 < rest c) (hx : ∀ c : K, c.err ≠ 0 → (rr c).1 = c) (ih : ∀ c, NoEnd c → em c < b → qdn (toO (rp c)) (rr c))
    {c : K} (hn : NoEnd c) (hr : em c < b) : (qbh rp c).1 = (qq (qf5 rr (qq c [123]).1).1 [125]).1 ∧ ((qbh rp c).2.2 = true → (qbh rp c).2.1 = (qf5 rr (qq c [123]).1).2) ∧ ((qbh rp c).2.2 = false → (qbh rp c).1.err ≠ 0) := by
  unfold qbh qf5
  have e1 := (qo c [123]).em
  by_cases hs : (qq c [123]).2 = true
  · rw [if_pos hs]
    exact qnl hp hm hl ih _ _ _ _ (hn.mon (qo c _)) (Nat.lt_succ_self _) (by omega) (by omega)
  · rw [if_neg hs]
    have h3 := qdg (c := c) (x := [123]) (by simpa using hs)
    have h4 : (qdt rr (em (qq c [123]).1 + 2) (qq c [123]).1 []).1 = (qq c [123]).1 := by
      rw [qdt]
      unfold qnx
      rw [hx _ h3, qen h3, Bool.false_and, if_neg (by simp)]
    rw [h4, qbv h3]
    exact ⟨rfl, (fun h => by cases h), fun _ => h3⟩
section
variable {rp : K → K × Option N} {rr : K → K × N} {b : Nat} (hx : ∀ c : K, c.err ≠ 0 → (rr c).1 = c) (ih : ∀ c, NoEnd c → em c < b → qdn (rp c) (rr c)) (hp : ∀ c, Mon c (rp c).1) (hm : ∀ c, Mon c (rr c).1)
include hx ih hp hm
theorem qyn (p : Int) {c : K} (hn : NoEnd c) (hr : em c < b) : qdn (toO (qfz rp p c)) (qqd rr p c) := by
  have hl := qom (b := b) (rp := fun c => ofO (qbq rp c)) (rr := qfw rr) (fun c => qgp hp c) (qkp hm) (fun c h => qkv hp h) (fun c h => qtf hx h) (fun c h1 h2 => by rw [q7g]; exact qup hx ih h1 h2) hn hr
  have hml := qfn (rd := fun c => ofO (qbq rp c)) (fun c => qgp hp c) c
  unfold qfz qqd letB letC qz1
  generalize qbh (fun c => ofO (qbq rp c)) c = L at *
  obtain ⟨d, l, ok⟩ := L
  simp only at hl hml ⊢
  rw [← hl.1]
  have e1 := hml.em
  have e2 := (qo d [105, 110]).em
  cases ok with
  | false =>
    have h3 := hl.2.2 rfl
    rw [if_neg (by simp), qbv h3, hx _ h3]
    exact qdu rfl (fun h => by cases h) (fun _ => h3)
  | true =>
    rw [if_pos rfl, hl.2.1 rfl]
    by_cases hw : (qq d [105, 110]).2 = true
    · rw [if_pos hw]
      have ha := ih (qq d [105, 110]).1 (hn.mon (hml.trans (qo _ _))) (by omega)
      refine qdu ha.1 (fun h => ?_) (fun h => qg2 ha (by simpa using h))
      simp only
      rw [qg0 ha h]
    · rw [if_neg hw]
      have h3 := qdg (c := d) (x := [105, 110]) (by simpa using hw)
      exact qdu (hx _ h3).symm (fun h => by cases h) (fun _ => h3)
omit hp hm in
theorem qwy {c : K} (hn : NoEnd c) (hr : em c < b) : qdn (toO (qdf rp c)) (qgt rr c) := by
  have hpa := qvf (rest c + 2) c (by have := qxv c; omega)
  have hmp := qd8 (rest c + 2) c
  unfold qdf qgt altB altC qtv
  generalize qbx (rest c + 2) c = q at *
  have e1 := hmp.em
  have e2 := (qo q.1 [45, 62]).em
  rw [← hpa.1]
  by_cases hs : q.2.isSome = true
  · rw [if_pos hs, qg0 hpa hs]
    by_cases hw : (qq q.1 [45, 62]).2 = true
    · rw [if_pos hw]
      have ha := ih (qq q.1 [45, 62]).1 (hn.mon (hmp.trans (qo _ _))) (by omega)
      refine qdu ha.1 (fun h => ?_) (fun h => qg2 ha (by simpa using h))
      simp only
      rw [qg0 ha h]
    · rw [if_neg hw]
      have h3 := qdg (c := q.1) (x := [45, 62]) (by simpa using hw)
      exact qdu (hx _ h3).symm (fun h => by cases h) (fun _ => h3)
  · rw [if_neg hs]
    have h3 := qg2 hpa hs
    rw [qbv h3, hx _ h3]
    exact qdu rfl (fun h => by cases h) (fun _ => h3)
omit ih hp hm in
theorem ql3 {c : K} (h : c.err ≠ 0) : (qgt rr c).1 = c := by
  unfold qgt qtv
  rw [qtd _ h]
  simp only
  rw [qbv h, hx _ h]
theorem qu2 (p : Int) {c : K} (hn : NoEnd c) (hr : em c < b) : qdn (toO (qea rp p c)) (qll rr p c) := by
  have hc := ih c hn hr
  have hmc := hp c
  unfold qea qll quj qu0 qvv
  generalize rp c = q at *
  have e1 := hmc.em
  have e2 := (qo q.1 [111, 102]).em
  rw [← hc.1]
  have herr : ∀ d : K, d.err ≠ 0 → (qq (qf5 (qgt rr) (qq (qq d [111, 102]).1 [123]).1).1 [125]).1 = d := fun d h3 => by
    have h4 : (qf5 (qgt rr) d).1 = d := by
      unfold qf5
      rw [qdt]
      unfold qnx
      rw [ql3 hx h3, qen h3, Bool.false_and, if_neg (by simp)]
    rw [qbv h3, qbv h3, h4, qbv h3]
  by_cases hs : q.2.isSome = true
  · rw [if_pos hs, qg0 hc hs]
    by_cases hw : (qq q.1 [111, 102]).2 = true
    · rw [if_pos hw]
      have hl := qom (b := b) (rp := qdf rp) (rr := qgt rr) (fun c => qj6 hp c) (qmm hm) (fun c h => qmb hp h) (fun c h => ql3 hx h) (fun c h1 h2 => qwy hx ih h1 h2) (hn.mon (hmc.trans (qo q.1 [111, 102]))) (by omega)
      exact qdu hl.1 (fun h => by simp only; rw [hl.2.1 h]) (fun h => hl.2.2 h)
    · rw [if_neg hw]
      have h3 := qdg (c := q.1) (x := [111, 102]) (by simpa using hw)
      refine qdu ?_ (fun h => by cases h) (fun _ => h3)
      have := herr _ h3
      rw [qbv h3] at this
      exact this.symm
  · rw [if_neg hs]
    have h3 := qg2 hc hs
    exact qdu (herr _ h3).symm (fun h => by cases h) (fun _ => h3)
omit hm in
theorem qww (p : Int) {c : K} (hn : NoEnd c) (hr : em c < b) : qdn (toO (qc6 rp p ifsW c [])) (qqn rr p c) := by
  have h1 := ih c hn hr
  have m1 := hp c
  unfold ifsW qqn q65
  rw [qc6, show ifsK c [] = (c, true) from rfl, if_pos rfl]
  simp only
  generalize rp c = q1 at *
  have e1 := m1.em
  have e2 := (qo q1.1 [116, 104, 101, 110]).em
  rw [← h1.1]
  have herr2 : ∀ (d : K) (a bb : K × N), d.err ≠ 0 → bb.1 = d → (qr7 rr p a bb).1 = d := fun d a bb h3 hb => by
    unfold qr7 qzw
    simp only
    rw [hb, qbv h3, hx _ h3]
  have herr1 : ∀ (d : K) (a : K × N), d.err ≠ 0 → (qr7 rr p a (rr (qq d [116, 104, 101, 110]).1)).1 = d := fun d a h3 => herr2 d a _ h3 (by rw [qbv h3, hx _ h3])
  by_cases s1 : q1.2.isSome = true
  · rw [if_pos s1, qg0 h1 s1]
    rw [qc6, show ifsK q1.1 [116, 104, 101, 110] = qq q1.1 [116, 104, 101, 110] from if_neg (by simp)]
    by_cases w2 : (qq q1.1 [116, 104, 101, 110]).2 = true
    · rw [if_pos w2]
      have h2 := ih (qq q1.1 [116, 104, 101, 110]).1 (hn.mon (m1.trans (qo _ _))) (by omega)
      have m2 := hp (qq q1.1 [116, 104, 101, 110]).1
      generalize rp (qq q1.1 [116, 104, 101, 110]).1 = q2 at *
      have e3 := m2.em
      have e4 := (qo q2.1 [101, 108, 115, 101]).em
      by_cases s2 : q2.2.isSome = true
      · rw [if_pos s2, qg0 h2 s2]
        rw [qc6, show ifsK q2.1 [101, 108, 115, 101] = qq q2.1 [101, 108, 115, 101] from if_neg (by simp)]
        unfold qr7 qzw
        rw [← h2.1]
        by_cases w3 : (qq q2.1 [101, 108, 115, 101]).2 = true
        · rw [if_pos w3]
          have h4 := ih (qq q2.1 [101, 108, 115, 101]).1 (hn.mon (((m1.trans (qo _ _)).trans m2).trans (qo _ _))) (by omega)
          generalize rp (qq q2.1 [101, 108, 115, 101]).1 = q3 at *
          by_cases s3 : q3.2.isSome = true
          · rw [if_pos s3, qg0 h4 s3, qc6]
            exact qdu h4.1 (fun _ => rfl) (fun h => by cases h)
          · rw [if_neg s3]
            exact qdu h4.1 (fun h => by cases h) (fun _ => qg2 h4 s3)
        · rw [if_neg w3]
          have h3 := qdg (c := q2.1) (x := [101, 108, 115, 101]) (by simpa using w3)
          exact qdu (hx _ h3).symm (fun h => by cases h) (fun _ => h3)
      · rw [if_neg s2]
        have h3 := qg2 h2 s2
        exact qdu (herr2 _ _ _ h3 h2.1.symm).symm (fun h => by cases h) (fun _ => h3)
    · rw [if_neg w2]
      have h3 := qdg (c := q1.1) (x := [116, 104, 101, 110]) (by simpa using w2)
      exact qdu (herr2 _ _ _ h3 (hx _ h3)).symm (fun h => by cases h) (fun _ => h3)
  · rw [if_neg s1]
    have h3 := qg2 h1 s1
    exact qdu (herr1 _ _ h3).symm (fun h => by cases h) (fun _ => h3)
theorem qt0 {c : K} (hn : NoEnd c) (hr : em c ≤ b) : qdn (toO (qcs rp c)) (qf8 rr c) := by
  unfold qcs qf8
  by_cases t1 : (qp c [92]).2 = true
  · rw [if_pos t1, if_pos t1]
    have e1 := qhj t1
    unfold qpx
    by_cases hk : (qw (qp c [92]).1).kind = 1
    · rw [if_pos hk, if_pos hk]
      exact qiw hx ih _ _ _ _ (hn.mon (q6 _ _)) (Nat.lt_succ_self _) (Nat.lt_succ_self _) (by omega)
    · rw [if_neg hk, if_neg hk]
      exact qdu rfl (fun h => by cases h) (fun _ => qgz _)
  · rw [if_neg t1, if_neg t1]
    by_cases t2 : (qp c [108, 101, 116]).2 = true
    · rw [if_pos t2, if_pos t2]
      have e1 := qhj t2
      exact qyn hx ih hp hm _ (hn.mon (q6 _ _)) (by omega)
    · rw [if_neg t2, if_neg t2]
      by_cases t3 : (qp c [99, 97, 115, 101]).2 = true
      · rw [if_pos t3, if_pos t3]
        have e1 := qhj t3
        exact qu2 hx ih hp hm _ (hn.mon (q6 _ _)) (by omega)
      · rw [if_neg t3, if_neg t3]
        by_cases t4 : (qp c [105, 102]).2 = true
        · rw [if_pos t4, if_pos t4]
          have e1 := qhj t4
          exact qww hx ih hp _ (hn.mon (q6 _ _)) (by omega)
        · rw [if_neg t4, if_neg t4]
          exact qxu hx ih hp hm hn hr
end
theorem qkt {rr : K → K × N} {c : K} (h : c.err ≠ 0) : (qf8 rr c).1 = c := by
  unfold qf8
  rw [qen h, qen h, qen h, qen h]
  simp only [Bool.false_eq_true, if_false]
  unfold qnj
  rw [qs8 h, qhn h]
theorem qys (f : Nat) {c : K} (h : c.err ≠ 0) : (qk5 f c).1 = c := by
  cases f with
  | zero => rfl
  | succ f =>
    rw [qk5, qic h]
    simp only
    rw [qkt h, qb1 h]
theorem qsj : ∀ (f : Nat) (c : K), NoEnd c → em c < f → qdn (qbt f c) (qk5 f c)
  | 0, _ => fun _ h => by omega
  | f + 1, c => fun hn hf => by
    have hx : ∀ c : K, c.err ≠ 0 → (qk5 f c).1 = c := fun c h => qys f h
    have e1 := (qv c).em
    rw [qbt, qk5]
    by_cases he : (qe c).2 = true
    · rw [if_pos he]
      have ha := qt0 hx (qsj f) (qjx f) (qpq f) (c := (qe c).1) (hn.mon (qv c)) (by omega)
      refine ⟨?_, ha.2.1, fun h => ?_⟩
      · simp only
        rw [← qlq ha]
      · have h3 : (qcs (qbt f) (qe c).1).1.err ≠ 0 := ha.2.2 h
        simp only
        rw [qb1 h3]
        exact h3
    · rw [if_neg he]
      have h3 := qet (c := c) (by simpa using he)
      refine ⟨?_, (fun n h => by cases h), fun _ => h3⟩
      simp only
      rw [qkt h3, qb1 h3]
end Go.Proofs.Ytmekebfgmjaenaa
