/- Texts of this proof, joined. -/
import Derived.Test.YtfjbmjplnmaclaaObf
import Derived.Test.YtfjbmjplnmaclaaObj

/- expressions: the reference: what it reads -/
namespace Go.Proofs.Ytfjbmjplnmaclaa
open Go Go.RowKit Go.V
set_option linter.unusedVariables false
set_option linter.unusedSimpArgs false

theorem qbb5 {c : K} (h : begE c = true) : c.err = 0 := (qfd (quk h)).1
theorem q0g {c : K} (h : c.err ≠ 0) : begE c = false := by
  cases hb : begE c with
  | false => rfl
  | true => exact absurd (qbb5 hb) h
def qei (rec : K → K × N) (c : K) : K × N :=
  if begE c = true then
    if isK c [40] = true then (qci (qq (rec (qq (qi c).1 [40]).1).1 [41]).1, (rec (qq (qi c).1 [40]).1).2)
    else (q7 c, (leafE c).getD N0)
  else (qd3 c 5, N0)
def qg2 (rec : K → K × N) : Nat → K → N → K × N
  | 0, c, n => (c, n)
  | f + 1, c, n => if begE c = true then qg2 rec f (qei rec c).1 (appN n (qei rec c).2) else (c, n)
def qqq (rec : K → K × N) (c : K) : K × N := qg2 rec (em (qei rec c).1 + 1) (qei rec c).1 (qei rec c).2
def qbvr (l : List T) (n : N) : N := l.foldr lamN n
def qeq : Nat → K → List T → K × List T
  | 0, c, acc => (c, acc)
  | f + 1, c, acc => if (qw c).kind = 1 then qeq f (q7 c) (acc ++ [qw c]) else (c, acc)
def qsr (c : K) : K × List T := qeq (em c + 1) c []
def q10 (rec : K → K × N) (x : List UInt8) (v : K × List T) : K × N := ((rec (qq v.1 x).1).1, qbvr v.2 (rec (qq v.1 x).1).2)
def qjs (rec : K → K × N) (x : List UInt8) (c : K) : K × N := q10 rec x (qsr c)
def qte (rec : K → K × N) (c : K) : K × N := if (qw c).kind = 1 then qjs rec [45, 62] c else (qd3 c 5, N0)
def qgc (rec : K → K × N) (c : K) : K × N :=
  if (qs (kindK c 1).1 [58, 58]).2 = true then
    ((qsm (rest (qs (kindK c 1).1 [58, 58]).1 + 2) (qs (kindK c 1).1 [58, 58]).1).1, qum 32 (qef c 1) (qsm (rest (qs (kindK c 1).1 [58, 58]).1 + 2) (qs (kindK c 1).1 [58, 58]).1).2)
  else ((qjs rec [61] (kindK c 1).1).1, qum 31 (qef c 1) (qjs rec [61] (kindK c 1).1).2)
def qgl (c : K) : K × Bool := ((qs c [59]).1, (qs c [59]).2 && !isK (qs c [59]).1 [125])
def qeo (rd : K → K × N) : Nat → K → List N → K × List N
  | 0, c, acc => (c, acc)
  | f + 1, c, acc => if (qgl (rd c).1).2 = true then qeo rd f (qgl (rd c).1).1 (acc ++ [(rd c).2]) else ((qgl (rd c).1).1, acc ++ [(rd c).2])
def qha (rd : K → K × N) (c : K) : K × List N := qeo rd (em c + 2) c []
def q40 (rec : K → K × N) (p : Int) (L : K × List N) : K × N :=
  ((rec (qq (qq L.1 [125]).1 [105, 110]).1).1, .mk 26 p 0 [] (L.2 ++ [(rec (qq (qq L.1 [125]).1 [105, 110]).1).2]))
def qsn (rec : K → K × N) (p : Int) (c : K) : K × N := q40 rec p (qha (qgc rec) (qq c [123]).1)
def qxe (rec : K → K × N) (p : K × N) : K × N := ((rec (qq p.1 [45, 62]).1).1, altN p.2 (rec (qq p.1 [45, 62]).1).2)
def qia (rec : K → K × N) (c : K) : K × N := qxe rec (qmo (rest c + 2) c)
def qz8 (p : Int) (x : N) (L : K × List N) : K × N := ((qq L.1 [125]).1, .mk 27 p 0 [] (x :: L.2))
def qnv (rec : K → K × N) (p : Int) (c : K) : K × N := qz8 p (rec c).2 (qha (qia rec) (qq (qq (rec c).1 [111, 102]).1 [123]).1)
def q7k (p : Int) (a b d : K × N) : K × N := (d.1, .mk 28 p 0 [] [a.2, b.2, d.2])
def qt8 (rec : K → K × N) (p : Int) (a b : K × N) : K × N := q7k p a b (rec (qq b.1 [101, 108, 115, 101]).1)
def qbdc (rec : K → K × N) (p : Int) (a : K × N) : K × N := qt8 rec p a (rec (qq a.1 [116, 104, 101, 110]).1)
def qty (rec : K → K × N) (p : Int) (c : K) : K × N := qbdc rec p (rec c)
def qg8 (rec : K → K × N) (c : K) : K × N :=
  if (qs c [92]).2 = true then qte rec (qs c [92]).1
  else if (qs c [108, 101, 116]).2 = true then qsn rec (qw c).pos (qs c [108, 101, 116]).1
  else if (qs c [99, 97, 115, 101]).2 = true then qnv rec (qw c).pos (qs c [99, 97, 115, 101]).1
  else if (qs c [105, 102]).2 = true then qty rec (qw c).pos (qs c [105, 102]).1
  else qqq rec c
def qk3 : Nat → K → K × N
  | 0, c => (c, N0)
  | f + 1, c => (qci (qg8 (qk3 f) (qi c).1).1, (qg8 (qk3 f) (qi c).1).2)

theorem qp8 : ∀ (f : Nat) (c : K) (acc : List T), Mon c (qeq f c acc).1
  | 0, c, acc => Mon.refl c
  | f + 1, c, acc => by
    rw [qeq]
    split
    · exact (qb1 c).trans (qp8 f _ _)
    · exact Mon.refl c
theorem qnz (c : K) : Mon c (qgl c).1 := qz c _
section
variable {rec : K → K × N} (hm : ∀ c, Mon c (rec c).1)
include hm
theorem qi2 (c : K) : Mon c (qei rec c).1 := by
  unfold qei
  split
  · split
    · exact ((q8 c).trans (qr _ _)).trans (qnw hm c)
    · exact qb1 c
  · exact qd9 c 5
theorem qsw {c : K} (h : begE c = true) : em (qei rec c).1 < em c := by
  unfold qei
  rw [if_pos h]
  split
  · have h1 := qjr (c := c) (by assumption)
    have h2 := (qnw hm c).em
    simp only; omega
  · exact qmi (quk h)
theorem qnc : ∀ (f : Nat) (c : K) (n : N), Mon c (qg2 rec f c n).1
  | 0, c, n => Mon.refl c
  | f + 1, c, n => by
    rw [qg2]
    split
    · exact (qi2 hm c).trans (qnc f _ _)
    · exact Mon.refl c
theorem qx2 (c : K) : Mon c (qqq rec c).1 := (qi2 hm c).trans (qnc hm _ _ _)
theorem qm8 (x : List UInt8) (c : K) : Mon c (qjs rec x c).1 := ((qp8 _ _ _).trans (qr _ x)).trans (hm _)
theorem qx1 (c : K) : Mon c (qte rec c).1 := by
  unfold qte
  split
  · exact qm8 hm _ c
  · exact qd9 c 5
theorem qmz (c : K) : Mon c (qgc rec c).1 := by
  unfold qgc
  split
  · exact ((qb8 c 1).trans (qz _ _)).trans ((qmr (qd0 _) _).trans (qd0 _ _))
  · exact (qb8 c 1).trans (qm8 hm _ _)
omit hm in
theorem qih {rd : K → K × N} (hd : ∀ c, Mon c (rd c).1) : ∀ (f : Nat) (c : K) (acc : List N), Mon c (qeo rd f c acc).1
  | 0, c, acc => Mon.refl c
  | f + 1, c, acc => by
    rw [qeo]
    split
    · exact ((hd c).trans (qnz _)).trans (qih hd f _ _)
    · exact (hd c).trans (qnz _)
theorem qw9 (p : Int) (c : K) : Mon c (qsn rec p c).1 := ((((qr c _).trans (qih (qmz hm) _ _ _)).trans (qr _ _)).trans (qr _ _)).trans (hm _)
theorem qo5 (c : K) : Mon c (qia rec c).1 := ((qle _ c).trans (qr _ _)).trans (hm _)
theorem qvw (p : Int) (c : K) : Mon c (qnv rec p c).1 := ((((hm c).trans (qr _ _)).trans (qr _ _)).trans (qih (qo5 hm) _ _ _)).trans (qr _ _)
theorem qxi (p : Int) (c : K) : Mon c (qty rec p c).1 := ((((hm c).trans (qr _ _)).trans (hm _)).trans (qr _ _)).trans (hm _)
theorem qvs (c : K) : Mon c (qg8 rec c).1 := by
  unfold qg8
  split
  · exact (qz c _).trans (qx1 hm _)
  · split
    · exact (qz c _).trans (qw9 hm _ _)
    · split
      · exact (qz c _).trans (qvw hm _ _)
      · split
        · exact (qz c _).trans (qxi hm _ _)
        · exact qx2 hm c
end
theorem qri : ∀ (f : Nat) (c : K), Mon c (qk3 f c).1
  | 0, c => Mon.refl c
  | f + 1, c => ((q8 c).trans (qvs (qri f) _)).trans (qbh _)

/-! The program. -/


theorem q6q {c : K} (h : (qgl c).2 = true) : em (qgl c).1 < em c := by
  unfold qgl at h ⊢
  simp only [Bool.and_eq_true] at h
  exact qh7 h.1



def NoEnd (c : K) : Prop := ∀ t ∈ c.l, t.kind ≠ 0
theorem NoEnd.mon {c c' : K} (h : NoEnd c) (m : Mon c c') : NoEnd c' := by unfold NoEnd; rw [m.2.2.2.1]; exact h
theorem qbdo (r : K × Option N) : toO (ofO r) = r := by
  obtain ⟨c, o⟩ := r
  cases o <;> rfl
theorem qem {p : R3} {r : K × N} (h1 : p.1 = r.1) (h2 : p.2.2 = true → p.2.1 = r.2) (h3 : p.2.2 = false → p.1.err ≠ 0) : qdr (toO p) r := by
  obtain ⟨d, n, ok⟩ := p
  cases ok with
  | false => exact ⟨h1, (fun n h => by cases h), fun _ => h3 rfl⟩
  | true => exact ⟨h1, (fun n h => by cases h; exact h2 rfl), (fun h => by cases h)⟩
theorem qn0 {p : R3} {r : K × N} (h : qdr (toO p) r) : p.1 = r.1 := h.1
theorem qyy {p : R3} {r : K × N} (h : qdr (toO p) r) (hs : p.2.2 = true) : p.2.1 = r.2 := h.2.1 _ (by unfold toO; simp only; rw [if_pos hs])
theorem qzs {p : R3} {r : K × N} (h : qdr (toO p) r) (hs : p.2.2 = false) : p.1.err ≠ 0 := h.2.2 (by unfold toO; simp only; rw [if_neg (by rw [hs]; simp)])
theorem qhe {p : K × Option N} {r : K × N} (h : qdr p r) (hs : ¬ p.2.isSome = true) : p.1.err ≠ 0 := h.2.2 (by
  cases ho : p.2 with
  | none => rfl
  | some n => rw [ho] at hs; exact absurd rfl hs)
theorem qhd {p : K × Option N} {r : K × N} (h : qdr p r) (hs : p.2.isSome = true) : p.2.getD N0 = r.2 := by
  obtain ⟨n, hn⟩ := Option.isSome_iff_exists.1 hs
  rw [hn]
  exact h.2.1 n hn
theorem qwg {rec : K → K × N} {c : K} (h : c.err ≠ 0) : qei rec c = (c, N0) := by
  rw [qei, if_neg (by rw [q0g h]; simp), qe7 h]
theorem qis {rec : K → K × N} {c : K} (h : c.err ≠ 0) (f : Nat) (n : N) : qg2 rec f c n = (c, n) := by
  cases f with
  | zero => rfl
  | succ f => rw [qg2, if_neg (by rw [q0g h]; simp)]
theorem qp2 {c : K} (h : c.err ≠ 0) (f : Nat) (acc : List T) : qeq f c acc = (c, acc) := by
  cases f with
  | zero => rfl
  | succ f => rw [qeq, qgo h, if_neg (by decide)]
theorem qi6 {c : K} {k : Int} (h : c.err ≠ 0) : kindK c k = (c, false) := by rw [qxk h, qe7 h]
theorem qkp : ∀ (f : Nat) (c : K) (acc : List T), qeq f c acc = ((qeq f c []).1, acc ++ (qeq f c []).2)
  | 0, c, acc => by simp [qeq]
  | f + 1, c, acc => by
    rw [qeq, qeq]
    split
    · rw [qkp f _ (acc ++ [qw c]), qkp f _ ([] ++ [qw c])]
      simp
    · simp
section
variable {rp : K → K × Option N} {rr : K → K × N} {b : Nat} (hx : ∀ c : K, c.err ≠ 0 → (rr c).1 = c) (ih : ∀ c, NoEnd c → em c < b → qdr (rp c) (rr c))
include hx ih
theorem qor {c : K} (hn : NoEnd c) (hr : em c ≤ b) : qdr (qbd rp c) (qei rr c) := by
  unfold qbd qei
  by_cases hl : (leafE c).isSome = true
  · have hk : ¬ isK c [40] = true := by
      intro h
      obtain ⟨n, hn⟩ := Option.isSome_iff_exists.1 hl
      simp only [isK, qf0, Bool.and_eq_true, Bool.or_eq_true, decide_eq_true_eq] at h
      unfold leafE at hn
      rw [if_neg (by omega), if_neg (by omega), if_neg (by omega)] at hn
      cases hn
    rw [if_pos hl, if_pos (show begE c = true by simp [begE, hl]), if_neg hk]
    exact ⟨rfl, fun n h => by simp only at h ⊢; rw [h]; rfl, fun h => by simp only at h; rw [h] at hl; cases hl⟩
  · rw [if_neg hl]
    by_cases hk : isK c [40] = true
    · rw [if_pos hk, if_pos (show begE c = true by simp [begE, hk]), if_pos hk]
      have hem := qjr hk
      by_cases he : (qi c).2 = true
      · rw [if_pos he]
        have hk' : isK (qi c).1 [40] = true := by rw [qn1 he]; exact hk
        rw [qjy hk'] at hem ⊢
        simp only at hem ⊢
        obtain ⟨a1, a2, a3⟩ := ih (q7 (qi c).1) (hn.mon ((q8 c).trans (qb1 _))) (by omega)
        rw [← a1]
        generalize rp (q7 (qi c).1) = r at *
        obtain ⟨d, o⟩ := r
        simp only at a1 a2 a3 ⊢
        cases o with
        | none =>
          have h3 := a3 rfl
          rw [if_neg (by simp), qbv h3, qck h3]
          exact ⟨rfl, (fun n h => by cases h), fun _ => h3⟩
        | some n =>
          rw [if_pos (by rfl)]
          by_cases hw : (qq d [41]).2 = true
          · rw [if_pos hw]
            exact ⟨rfl, fun m h => a2 m h, (fun h => by cases h)⟩
          · rw [if_neg hw]
            have h3 := qdd (by simpa using hw)
            exact ⟨(qck h3).symm, (fun n h => by cases h), fun _ => h3⟩
      · have he' : (qi c).2 = false := by simpa using he
        have h1 := qfq he'
        rw [if_neg he]
        rw [qbv h1] at hem ⊢
        simp only at hem ⊢
        rw [hx _ h1, qbv h1, qck h1]
        exact ⟨rfl, (fun n h => by cases h), fun _ => h1⟩
    · rw [if_neg hk, if_neg (show ¬ begE c = true by simp [begE, hl, hk])]
      exact ⟨rfl, (fun n h => by cases h), fun _ => qfn c⟩
theorem qql (hp : ∀ c, Mon c (rp c).1) (hm : ∀ c, Mon c (rr c).1) : ∀ (f g : Nat) (c : K) (n : N), NoEnd c → rest c < f → em c < g → em c ≤ b → qdr (toO (qet rp f c n)) (qg2 rr g c n)
  | 0, _, _, _ => fun _ h _ _ => by omega
  | _, 0, _, _ => fun _ _ h _ => by omega
  | f + 1, g + 1, c, n => fun hn hf hg hb => by
    rw [qet, qg2]
    by_cases hk : begE c = true
    · rw [if_pos hk, if_pos hk]
      have ha := qor hx ih hn hb
      have hl := qsw hm hk
      have hml := qdl hp c
      by_cases hs : (qbd rp c).2.isSome = true
      · rw [if_pos hs, qhd ha hs, ← ha.1]
        have hlt := qiu hp hs
        rw [← ha.1] at hl
        exact qql hp hm f g _ _ (hn.mon hml) (by omega) (by omega) (by omega)
      · rw [if_neg hs]
        have h3 := qhe ha hs
        rw [qis (by rw [← ha.1]; exact h3)]
        exact qem ha.1 (fun h => by cases h) (fun _ => h3)
    · rw [if_neg hk, if_neg hk]
      exact qem rfl (fun _ => rfl) (fun h => by cases h)
theorem q1x (hp : ∀ c, Mon c (rp c).1) (hm : ∀ c, Mon c (rr c).1) {c : K} (hn : NoEnd c) (hr : em c ≤ b) : qdr (toO (qf5 rp c)) (qqq rr c) := by
  unfold qf5 qqq
  have ha := qor hx ih hn hr
  have hml := qdl hp c
  have hme := (qi2 hm c).em
  by_cases hs : (qbd rp c).2.isSome = true
  · rw [if_pos hs, qhd ha hs, ← ha.1]
    rw [← ha.1] at hme
    exact qql hx ih hp hm _ _ _ _ (hn.mon hml) (Nat.lt_succ_self _) (Nat.lt_succ_self _) (by omega)
  · rw [if_neg hs]
    have h3 := qhe ha hs
    rw [qis (by rw [← ha.1]; exact h3)]
    exact qem ha.1 (fun h => by cases h) (fun _ => h3)
theorem qkv (x : List UInt8) : ∀ (f g : Nat) (c : K), NoEnd c → rest c < f → em c < g → em c < b → qdr (toO (qcg rp x f c)) (q10 rr x (qeq g c []))
  | 0, _, _ => fun _ h _ _ => by omega
  | _, 0, _ => fun _ _ h _ => by omega
  | f + 1, g + 1, c => fun hn hf hg hb => by
    rw [qcg, qeq]
    by_cases hk : (qw c).kind = 1
    · rw [if_pos hk, if_pos hk, qkp]
      have h1 := qbj (c := c) (by omega)
      have h2 := qmi (c := c) (by omega)
      have ha := qkv x f g (q7 c) (hn.mon (qb1 c)) (by omega) (by omega) (by omega)
      refine qem (show (qcg rp x f (q7 c)).1 = (q10 rr x (qeq g (q7 c) [])).1 from qn0 ha) (fun h => ?_) (fun h => qzs (p := qcg rp x f (q7 c)) ha h)
      simp only
      rw [qyy (p := qcg rp x f (q7 c)) ha h]
      rfl
    · rw [if_neg hk, if_neg hk]
      have hw := (qr c x).em
      unfold q10
      simp only [qbvr, List.foldr_nil]
      by_cases hs : (qq c x).2 = true
      · rw [if_pos hs, qbdo]
        exact ih _ (hn.mon (qr c x)) (by omega)
      · rw [if_neg hs]
        have h3 := qdd (c := c) (x := x) (by simpa using hs)
        exact qem (hx _ h3).symm (fun h => by cases h) (fun _ => h3)
theorem qon {c : K} (hn : NoEnd c) (hr : em c < b) : qdr (qb2 rp c) (qgc rr c) := by
  have hk1 := qb8 c 1
  have e1 := hk1.em
  unfold qb2 qgc
  by_cases hk : (kindK c 1).2 = true
  · rw [if_pos hk]
    by_cases ht : (qs (kindK c 1).1 [58, 58]).2 = true
    · rw [if_pos ht, if_pos ht]
      have hem := qwm (qs (kindK c 1).1 [58, 58]).1
      have ha := q2a (rest (qs (kindK c 1).1 [58, 58]).1 + 2) (qs (kindK c 1).1 [58, 58]).1 (hn.mon (hk1.trans (qz _ _))) (by omega)
      refine ⟨ha.1, fun n h => ?_, fun h => ha.2.2 (by simpa using h)⟩
      obtain ⟨q, hq, rfl⟩ := Option.map_eq_some_iff.1 h
      rw [ha.2.1 q hq]
    · rw [if_neg ht, if_neg ht]
      have ha := qkv hx ih [61] (rest (kindK c 1).1 + 1) (em (kindK c 1).1 + 1) (kindK c 1).1 (hn.mon hk1) (Nat.lt_succ_self _) (Nat.lt_succ_self _) (by omega)
      refine ⟨ha.1, fun n h => ?_, fun h => ha.2.2 (by simpa using h)⟩
      obtain ⟨q, hq, rfl⟩ := Option.map_eq_some_iff.1 h
      exact congrArg _ (ha.2.1 q hq)
  · rw [if_neg hk]
    have h3 := qlk (c := c) (k := 1) (by simpa using hk)
    rw [qek h3, if_neg (by simp)]
    unfold qjs qsr q10
    rw [qp2 h3]
    simp only
    rw [qbv h3, hx _ h3]
    exact ⟨rfl, (fun n h => by cases h), fun _ => h3⟩
omit ih in
theorem qv0 {c : K} (h : c.err ≠ 0) : (qgc rr c).1 = c := by
  unfold qgc qjs qsr q10
  rw [qi6 h, qek h, if_neg (by simp), qp2 h]
  simp only
  rw [qbv h, hx _ h]
end
/-- Rows in braces. -/
theorem qph {rp : K → R3} {rr : K → K × N} {b : Nat} (hp : ∀ c, Mon c (rp c).1) (hm : ∀ c, Mon c (rr c).1) (hl : ∀ c, (rp c).2.2 = true → rest (rp c).1 < rest c) (ih : ∀ c, NoEnd c → em c < b → qdr (toO (rp c)) (rr c)) :
    ∀ (f g : Nat) (c : K) (acc : List N), NoEnd c → rest c < f → em c < g → em c < b →
      (qb5 rp f c acc).1 = (qq (qeo rr g c acc).1 [125]).1 ∧ ((qb5 rp f c acc).2.2 = true → (qb5 rp f c acc).2.1 = (qeo rr g c acc).2) ∧ ((qb5 rp f c acc).2.2 = false → (qb5 rp f c acc).1.err ≠ 0)
  | 0, _, _, _ => fun _ h _ _ => by omega
  | _, 0, _, _ => fun _ _ h _ => by omega
  | f + 1, g + 1, c, acc => fun hn hf hg hb => by
    rw [qb5, qeo]
    have ha := ih c hn hb
    have e1 := (hm c).em
    have hmo : qgl (rp c).1 = ((qs (rp c).1 [59]).1, (qs (rp c).1 [59]).2 && !isK (qs (rp c).1 [59]).1 [125]) := rfl
    by_cases hs : (rp c).2.2 = true
    · rw [if_pos hs, qyy ha hs, ← qn0 ha, hmo]
      by_cases ht : ((qs (rp c).1 [59]).2 && !isK (qs (rp c).1 [59]).1 [125]) = true
      · rw [if_pos ht, if_pos ht]
        have h1 := hl c hs
        have h2 := (qz (rp c).1 [59]).2.1
        have h3 : em (qs (rp c).1 [59]).1 < em (rp c).1 := q6q (c := (rp c).1) ht
        have h4 := (hp c).em
        exact qph hp hm hl ih f g _ _ (hn.mon ((hp c).trans (qz _ _))) (by omega) (by omega) (by omega)
      · rw [if_neg ht, if_neg ht]
        refine ⟨rfl, fun _ => rfl, fun h => qdd h⟩
    · rw [if_neg hs]
      have h3 := qzs ha (by simpa using hs)
      rw [← qn0 ha]
      unfold qgl
      rw [qek h3, Bool.false_and, if_neg (by simp)]
      simp only
      rw [qbv h3]
      exact ⟨rfl, (fun h => by cases h), fun _ => h3⟩
theorem qq3 {rp : K → R3} {rr : K → K × N} {b : Nat} (hp : ∀ c, Mon c (rp c).1) (hm : ∀ c, Mon c (rr c).1) (hl : ∀ c, (rp c).2.2 = true → rest (rp c).1 < rest c) (hx : ∀ c : K, c.err ≠ 0 → (rr c).1 = c) (ih : ∀ c, NoEnd c → em c < b → qdr (toO (rp c)) (rr c))
    {c : K} (hn : NoEnd c) (hr : em c < b) : (qbk rp c).1 = (qq (qha rr (qq c [123]).1).1 [125]).1 ∧ ((qbk rp c).2.2 = true → (qbk rp c).2.1 = (qha rr (qq c [123]).1).2) ∧ ((qbk rp c).2.2 = false → (qbk rp c).1.err ≠ 0) := by
  unfold qbk qha
  have e1 := (qr c [123]).em
  by_cases hs : (qq c [123]).2 = true
  · rw [if_pos hs]
    exact qph hp hm hl ih _ _ _ _ (hn.mon (qr c _)) (Nat.lt_succ_self _) (by omega) (by omega)
  · rw [if_neg hs]
    have h3 := qdd (c := c) (x := [123]) (by simpa using hs)
    have h4 : (qeo rr (em (qq c [123]).1 + 2) (qq c [123]).1 []).1 = (qq c [123]).1 := by
      rw [qeo]
      unfold qgl
      rw [hx _ h3, qek h3, Bool.false_and, if_neg (by simp)]
    rw [h4, qbv h3]
    exact ⟨rfl, (fun h => by cases h), fun _ => h3⟩
section
variable {rp : K → K × Option N} {rr : K → K × N} {b : Nat} (hx : ∀ c : K, c.err ≠ 0 → (rr c).1 = c) (ih : ∀ c, NoEnd c → em c < b → qdr (rp c) (rr c)) (hp : ∀ c, Mon c (rp c).1) (hm : ∀ c, Mon c (rr c).1)
include hx ih hp hm
theorem q1v (p : Int) {c : K} (hn : NoEnd c) (hr : em c < b) : qdr (toO (qg0 rp p c)) (qsn rr p c) := by
  have hl := qq3 (b := b) (rp := fun c => ofO (qb2 rp c)) (rr := qgc rr) (fun c => qgk hp c) (qmz hm) (fun c h => qi3 hp h) (fun c h => qv0 hx h) (fun c h1 h2 => by rw [qbdo]; exact qon hx ih h1 h2) hn hr
  have hml := qgi (rd := fun c => ofO (qb2 rp c)) (fun c => qgk hp c) c
  unfold qg0 qsn letB letC q40
  generalize qbk (fun c => ofO (qb2 rp c)) c = L at *
  obtain ⟨d, l, ok⟩ := L
  simp only at hl hml ⊢
  rw [← hl.1]
  have e1 := hml.em
  have e2 := (qr d [105, 110]).em
  cases ok with
  | false =>
    have h3 := hl.2.2 rfl
    rw [if_neg (by simp), qbv h3, hx _ h3]
    exact qem rfl (fun h => by cases h) (fun _ => h3)
  | true =>
    rw [if_pos rfl, hl.2.1 rfl]
    by_cases hw : (qq d [105, 110]).2 = true
    · rw [if_pos hw]
      have ha := ih (qq d [105, 110]).1 (hn.mon (hml.trans (qr _ _))) (by omega)
      refine qem ha.1 (fun h => ?_) (fun h => qhe ha (by simpa using h))
      simp only
      rw [qhd ha h]
    · rw [if_neg hw]
      have h3 := qdd (c := d) (x := [105, 110]) (by simpa using hw)
      exact qem (hx _ h3).symm (fun h => by cases h) (fun _ => h3)
omit hp hm in
theorem q1h {c : K} (hn : NoEnd c) (hr : em c < b) : qdr (toO (qd8 rp c)) (qia rr c) := by
  have hpa := qy1 (rest c + 2) c (by have := qwm c; omega)
  have hmp := qe0 (rest c + 2) c
  unfold qd8 qia altB altC qxe
  generalize qcf (rest c + 2) c = q at *
  have e1 := hmp.em
  have e2 := (qr q.1 [45, 62]).em
  rw [← hpa.1]
  by_cases hs : q.2.isSome = true
  · rw [if_pos hs, qhd hpa hs]
    by_cases hw : (qq q.1 [45, 62]).2 = true
    · rw [if_pos hw]
      have ha := ih (qq q.1 [45, 62]).1 (hn.mon (hmp.trans (qr _ _))) (by omega)
      refine qem ha.1 (fun h => ?_) (fun h => qhe ha (by simpa using h))
      simp only
      rw [qhd ha h]
    · rw [if_neg hw]
      have h3 := qdd (c := q.1) (x := [45, 62]) (by simpa using hw)
      exact qem (hx _ h3).symm (fun h => by cases h) (fun _ => h3)
  · rw [if_neg hs]
    have h3 := qhe hpa hs
    rw [qbv h3, hx _ h3]
    exact qem rfl (fun h => by cases h) (fun _ => h3)
omit ih hp hm in
theorem qp9 {c : K} (h : c.err ≠ 0) : (qia rr c).1 = c := by
  unfold qia qxe
  rw [qwd _ h]
  simp only
  rw [qbv h, hx _ h]
theorem qxo (p : Int) {c : K} (hn : NoEnd c) (hr : em c < b) : qdr (toO (qe2 rp p c)) (qnv rr p c) := by
  have hc := ih c hn hr
  have hmc := hp c
  unfold qe2 qnv qxv qxf qz8
  generalize rp c = q at *
  have e1 := hmc.em
  have e2 := (qr q.1 [111, 102]).em
  rw [← hc.1]
  have herr : ∀ d : K, d.err ≠ 0 → (qq (qha (qia rr) (qq (qq d [111, 102]).1 [123]).1).1 [125]).1 = d := fun d h3 => by
    have h4 : (qha (qia rr) d).1 = d := by
      unfold qha
      rw [qeo]
      unfold qgl
      rw [qp9 hx h3, qek h3, Bool.false_and, if_neg (by simp)]
    rw [qbv h3, qbv h3, h4, qbv h3]
  by_cases hs : q.2.isSome = true
  · rw [if_pos hs, qhd hc hs]
    by_cases hw : (qq q.1 [111, 102]).2 = true
    · rw [if_pos hw]
      have hl := qq3 (b := b) (rp := qd8 rp) (rr := qia rr) (fun c => ql7 hp c) (qo5 hm) (fun c h => qqk hp h) (fun c h => qp9 hx h) (fun c h1 h2 => q1h hx ih h1 h2) (hn.mon (hmc.trans (qr q.1 [111, 102]))) (by omega)
      exact qem hl.1 (fun h => by simp only; rw [hl.2.1 h]) (fun h => hl.2.2 h)
    · rw [if_neg hw]
      have h3 := qdd (c := q.1) (x := [111, 102]) (by simpa using hw)
      refine qem ?_ (fun h => by cases h) (fun _ => h3)
      have := herr _ h3
      rw [qbv h3] at this
      exact this.symm
  · rw [if_neg hs]
    have h3 := qhe hc hs
    exact qem (herr _ h3).symm (fun h => by cases h) (fun _ => h3)
omit hm in
theorem q1z (p : Int) {c : K} (hn : NoEnd c) (hr : em c < b) : qdr (toO (qdt rp p ifsW c [])) (qty rr p c) := by
  have h1 := ih c hn hr
  have m1 := hp c
  unfold ifsW qty qbdc
  rw [qdt, show ifsK c [] = (c, true) from rfl, if_pos rfl]
  simp only
  generalize rp c = q1 at *
  have e1 := m1.em
  have e2 := (qr q1.1 [116, 104, 101, 110]).em
  rw [← h1.1]
  have herr2 : ∀ (d : K) (a bb : K × N), d.err ≠ 0 → bb.1 = d → (qt8 rr p a bb).1 = d := fun d a bb h3 hb => by
    unfold qt8 q7k
    simp only
    rw [hb, qbv h3, hx _ h3]
  have herr1 : ∀ (d : K) (a : K × N), d.err ≠ 0 → (qt8 rr p a (rr (qq d [116, 104, 101, 110]).1)).1 = d := fun d a h3 => herr2 d a _ h3 (by rw [qbv h3, hx _ h3])
  by_cases s1 : q1.2.isSome = true
  · rw [if_pos s1, qhd h1 s1]
    rw [qdt, show ifsK q1.1 [116, 104, 101, 110] = qq q1.1 [116, 104, 101, 110] from if_neg (by simp)]
    by_cases w2 : (qq q1.1 [116, 104, 101, 110]).2 = true
    · rw [if_pos w2]
      have h2 := ih (qq q1.1 [116, 104, 101, 110]).1 (hn.mon (m1.trans (qr _ _))) (by omega)
      have m2 := hp (qq q1.1 [116, 104, 101, 110]).1
      generalize rp (qq q1.1 [116, 104, 101, 110]).1 = q2 at *
      have e3 := m2.em
      have e4 := (qr q2.1 [101, 108, 115, 101]).em
      by_cases s2 : q2.2.isSome = true
      · rw [if_pos s2, qhd h2 s2]
        rw [qdt, show ifsK q2.1 [101, 108, 115, 101] = qq q2.1 [101, 108, 115, 101] from if_neg (by simp)]
        unfold qt8 q7k
        rw [← h2.1]
        by_cases w3 : (qq q2.1 [101, 108, 115, 101]).2 = true
        · rw [if_pos w3]
          have h4 := ih (qq q2.1 [101, 108, 115, 101]).1 (hn.mon (((m1.trans (qr _ _)).trans m2).trans (qr _ _))) (by omega)
          generalize rp (qq q2.1 [101, 108, 115, 101]).1 = q3 at *
          by_cases s3 : q3.2.isSome = true
          · rw [if_pos s3, qhd h4 s3, qdt]
            exact qem h4.1 (fun _ => rfl) (fun h => by cases h)
          · rw [if_neg s3]
            exact qem h4.1 (fun h => by cases h) (fun _ => qhe h4 s3)
        · rw [if_neg w3]
          have h3 := qdd (c := q2.1) (x := [101, 108, 115, 101]) (by simpa using w3)
          exact qem (hx _ h3).symm (fun h => by cases h) (fun _ => h3)
      · rw [if_neg s2]
        have h3 := qhe h2 s2
        exact qem (herr2 _ _ _ h3 h2.1.symm).symm (fun h => by cases h) (fun _ => h3)
    · rw [if_neg w2]
      have h3 := qdd (c := q1.1) (x := [116, 104, 101, 110]) (by simpa using w2)
      exact qem (herr2 _ _ _ h3 (hx _ h3)).symm (fun h => by cases h) (fun _ => h3)
  · rw [if_neg s1]
    have h3 := qhe h1 s1
    exact qem (herr1 _ _ h3).symm (fun h => by cases h) (fun _ => h3)
theorem qw2 {c : K} (hn : NoEnd c) (hr : em c ≤ b) : qdr (toO (qdn rp c)) (qg8 rr c) := by
  unfold qdn qg8
  by_cases t1 : (qs c [92]).2 = true
  · rw [if_pos t1, if_pos t1]
    have e1 := qh7 t1
    unfold qte
    by_cases hk : (qw (qs c [92]).1).kind = 1
    · rw [if_pos hk, if_pos hk]
      exact qkv hx ih _ _ _ _ (hn.mon (qz _ _)) (Nat.lt_succ_self _) (Nat.lt_succ_self _) (by omega)
    · rw [if_neg hk, if_neg hk]
      exact qem rfl (fun h => by cases h) (fun _ => qfn _)
  · rw [if_neg t1, if_neg t1]
    by_cases t2 : (qs c [108, 101, 116]).2 = true
    · rw [if_pos t2, if_pos t2]
      have e1 := qh7 t2
      exact q1v hx ih hp hm _ (hn.mon (qz _ _)) (by omega)
    · rw [if_neg t2, if_neg t2]
      by_cases t3 : (qs c [99, 97, 115, 101]).2 = true
      · rw [if_pos t3, if_pos t3]
        have e1 := qh7 t3
        exact qxo hx ih hp hm _ (hn.mon (qz _ _)) (by omega)
      · rw [if_neg t3, if_neg t3]
        by_cases t4 : (qs c [105, 102]).2 = true
        · rw [if_pos t4, if_pos t4]
          have e1 := qh7 t4
          exact q1z hx ih hp _ (hn.mon (qz _ _)) (by omega)
        · rw [if_neg t4, if_neg t4]
          exact q1x hx ih hp hm hn hr
end
theorem qm3 {rr : K → K × N} {c : K} (h : c.err ≠ 0) : (qg8 rr c).1 = c := by
  unfold qg8
  rw [qek h, qek h, qek h, qek h]
  simp only [Bool.false_eq_true, if_false]
  unfold qqq
  rw [qwg h, qis h]
theorem qra (f : Nat) {c : K} (h : c.err ≠ 0) : (qk3 f c).1 = c := by
  cases f with
  | zero => rfl
  | succ f =>
    rw [qk3, qjw h]
    simp only
    rw [qm3 h, qck h]
theorem qt5 : ∀ (f : Nat) (c : K), NoEnd c → em c < f → qdr (qfc f c) (qk3 f c)
  | 0, _ => fun _ h => by omega
  | f + 1, c => fun hn hf => by
    have hx : ∀ c : K, c.err ≠ 0 → (qk3 f c).1 = c := fun c h => qra f h
    have e1 := (q8 c).em
    rw [qfc, qk3]
    by_cases he : (qi c).2 = true
    · rw [if_pos he]
      have ha := qw2 hx (qt5 f) (qjd f) (qri f) (c := (qi c).1) (hn.mon (q8 c)) (by omega)
      refine ⟨?_, ha.2.1, fun h => ?_⟩
      · simp only
        rw [← qn0 ha]
      · have h3 : (qdn (qfc f) (qi c).1).1.err ≠ 0 := ha.2.2 h
        simp only
        rw [qck h3]
        exact h3
    · rw [if_neg he]
      have h3 := qfq (c := c) (by simpa using he)
      refine ⟨?_, (fun n h => by cases h), fun _ => h3⟩
      simp only
      rw [qm3 h3, qck h3]
end Go.Proofs.Ytfjbmjplnmaclaa
