/- Texts of this proof, joined. -/
import Derived.Test.YtfjbmjplnmaclaaGreatPbd

/- declarations: what is read (plain) -/
namespace Go.Proofs.YtfjbmjplnmaclaaGreat
open Go Go.RowKit Go.V
set_option linter.unusedVariables false
set_option linter.unusedSimpArgs false
set_option linter.unusedSectionVars false

abbrev MF := Bool → K → Bool × K × Bool
def rowF (one : K → R3) (more : MF) : Nat → Bool → K → List N → Bool × RL
 | 0, b, c, _ => (b, c, [], false)
 | f + 1, b, c, acc =>
   if (more b c).2.2 = true then
    if (one (more b c).2.1).2.2 = true then rowF one more f (more b c).1 (one (more b c).2.1).1 (acc ++ [(one (more b c).2.1).2.1])
    else ((more b c).1, (one (more b c).2.1).1, acc, false)
   else ((more b c).1, (more b c).2.1, acc, true)
def rowS (one : K → R3) (more : MF) (b : Bool) (c : K) (acc : List N) : Bool × RL := rowF one more (rest c + 1) b c acc
def qfr (p : K → Bool) : MF := fun b c => (b, c, p c)
def qb5 (x : List UInt8) : MF := fun b c => if b = true then (b, (qf c x).1, (qf c x).2) else (true, c, true)
def qgu : MF := fun b c => if isK c [125] = true then (b, c, false) else ((qb5 [59] b c).1, (qb5 [59] b c).2.1, (qb5 [59] b c).2.2 && !isK (qb5 [59] b c).2.1 [125])
def qh1 : MF := fun b c => if (qq c).kind = 0 then (b, c, false) else ((qb5 [59] b c).1, (qb5 [59] b c).2.1, (qb5 [59] b c).2.2 && !decide ((qq (qb5 [59] b c).2.1).kind = 0))
def qd7 (c : K) : Bool := decide ((qq c).kind = 1)
def qgh (c : K) : K × Option N := qbz (qb3 (rest c + 2)) c
def qh3 (c : K) : K × Option N := qca (qix (rest c + 2)) c
def qd4 (c : K) : K × Option (List N) := qbj (qb3 (rest c + 2)) c
def qde (c : K) : R3 := ofO (qgh c)
def conN (t : T) (l : List N) : N := .mk 34 t.pos 0 t.text l
def conK (c : K) : R3 :=
 if (qn c 2).2 = true then ((rowS qde (qfr begT) false (qn c 2).1 []).2.1, conN (qev c 2) (rowS qde (qfr begT) false (qn c 2).1 []).2.2.1, (rowS qde (qfr begT) false (qn c 2).1 []).2.2.2)
 else ((qn c 2).1, N0, false)
def qrn (p : Int) (t : T) (v l : List N) : N := .mk 33 p v.length t.text l
def qzy (p : Int) (t : T) (v : List N) (w : K × Bool) : R3 :=
 if w.2 = true then ((rowS conK (qb5 [124]) false w.1 v).2.1, qrn p t v (rowS conK (qb5 [124]) false w.1 v).2.2.1, (rowS conK (qb5 [124]) false w.1 v).2.2.2)
 else (w.1, posN p, false)
def q45 (p : Int) (t : T) (r : RL) : R3 := qzy p t r.2.1 (qi r.1 [61])
def qmk (p : Int) (c : K) : R3 :=
 if (qn c 2).2 = true then q45 p (qev c 2) (rowS qde (qfr qd7) false (qn c 2).1 []).2
 else ((qn c 2).1, posN p, false)
def qbn (kind : Int) (c : K) : R3 :=
 if (qh3 c).2.isSome = true ∧ ((qh3 c).2.getD N0).kind ≠ kind then (qdg (qh3 c).1 5, (qh3 c).2.getD N0, false) else ofO (qh3 c)
def qob (r : RL) : RL := if r.2.2 = true then ((qi r.1 [125]).1, r.2.1, (qi r.1 [125]).2) else r
def qdq (kind : Int) (c : K) (out : List N) : RL :=
 if (qi c [119, 104, 101, 114, 101]).2 = true then
  if (qi (qi c [119, 104, 101, 114, 101]).1 [123]).2 = true then qob (rowS (qbn kind) qgu false (qi (qi c [119, 104, 101, 114, 101]).1 [123]).1 out).2
  else ((qi (qi c [119, 104, 101, 114, 101]).1 [123]).1, out, false)
 else ((qi c [119, 104, 101, 114, 101]).1, out, false)
def q5t (k p : Int) : N := .mk k p 0 [] []
def qkn (k p : Int) (t : T) (v l : List N) : N := .mk k p v.length t.text l
def q4h (k p : Int) (t : T) (v : List N) (a : K × Option N) : R3 :=
 if a.2.isSome = true then ((qdq (if k = 35 then 32 else 31) a.1 (v ++ [a.2.getD N0])).1, qkn k p t v (qdq (if k = 35 then 32 else 31) a.1 (v ++ [a.2.getD N0])).2.1, (qdq (if k = 35 then 32 else 31) a.1 (v ++ [a.2.getD N0])).2.2)
 else (a.1, qkn k p t v [], false)
def qz6 (k p : Int) (t : T) (v : List N) (c : K) : R3 :=
 if k = 35 ∧ (qq c).kind ≠ 1 then (qdg c 5, qkn k p t v [], false) else q4h k p t v (qgh c)
def q4m (k p : Int) (c : K) (v : List N) : R3 :=
 if (qn c 2).2 = true then qz6 k p (qev c 2) v (qn c 2).1 else ((qn c 2).1, q5t k p, false)
def ql1 (k p : Int) (c : K) : R3 :=
 if (qd4 c).2.isSome = true then q4m k p (qd4 c).1 ((qd4 c).2.getD []) else ((qd4 c).1, q5t k p, false)
def qpi : List UInt8 := [100, 97, 116, 97]
def qkc : List UInt8 := [99, 108, 97, 115, 115]
def qpn : List UInt8 := [105, 110, 115, 116, 97, 110, 99, 101]
def qdv (c : K) : R3 :=
 if (qf c qpi).2 = true then qmk (qq c).pos (qf c qpi).1
 else if (qf c qkc).2 = true then ql1 35 (qq c).pos (qf c qkc).1
 else if (qf c qpn).2 = true then ql1 36 (qq c).pos (qf c qpn).1
 else ofO (qh3 c)
def qpg (l : List N) : N := .mk 37 0 0 [] l
def qoj (c : K) : K × Option N := ((rowS qdv qh1 false c []).2.1, some (qpg (rowS qdv qh1 false c []).2.2.1))
def decK (c : K) : K × Option N := ((qdv c).1, some (qdv c).2.1)

theorem qon {c : K} {k : Int} (hk : k ≠ 0) (h : (qn c k).2 = true) : rest (qn c k).1 < rest c := by
 obtain ⟨h1, h2⟩ := qhr h
 rw [(qk8 h).1]
 have := qbk (c := c) (by rw [h2]; exact hk)
 simp only; omega
structure Goes (one : K → R3) : Prop where
 m : ∀ c, Mon c (one c).1
 l : ∀ c, (one c).2.2 = true → rest (one c).1 < rest c
def MonM (more : MF) : Prop := ∀ b c, Mon c (more b c).2.1
theorem monA (p : K → Bool) : MonM (qfr p) := fun b c => Mon.refl c
theorem monF (x : List UInt8) : MonM (qb5 x) := fun b c => by
 unfold qb5
 split
 ·exact qk c x
 ·exact Mon.refl c
theorem monB : MonM qgu := fun b c => by
 unfold qgu
 split
 ·exact Mon.refl c
 ·exact monF [59] b c
theorem monP : MonM qh1 := fun b c => by
 unfold qh1
 split
 ·exact Mon.refl c
 ·exact monF [59] b c
section
variable {one : K → R3} {more : MF} (ho : Goes one) (hm : MonM more)
include ho hm
theorem q1o : ∀ (f : Nat) (b : Bool) (c : K) (acc : List N), Mon c (rowF one more f b c acc).2.1
 | 0, b, c, acc => Mon.refl c
 | f + 1, b, c, acc => by
   rw [rowF]
   split
   ·split
    ·exact ((hm b c).trans (ho.m _)).trans (q1o f _ _ _)
    ·exact (hm b c).trans (ho.m _)
   ·exact hm b c
theorem q3f : ∀ (f : Nat) (b : Bool) (c : K) (acc : List N), (rowF one more f b c acc).2.2.1.length + rest (rowF one more f b c acc).2.1 ≤ acc.length + rest c
 | 0, b, c, acc => by simp [rowF]
 | f + 1, b, c, acc => by
   have h3 := (hm b c).2.1
   have h4 := (ho.m (more b c).2.1).2.1
   rw [rowF]
   split
   ·split
    ·rename_i h
     have h1 := ho.l _ h
     have h2 := q3f f (more b c).1 (one (more b c).2.1).1 (acc ++ [(one (more b c).2.1).2.1])
     simp only [List.length_append, List.length_cons, List.length_nil] at h2
     omega
    ·simp only; omega
   ·simp only; omega
theorem qbad (hz : ∀ c, SzB c (one c)) : ∀ (f : Nat) (b : Bool) (c : K) (acc : List N), rest c < f → szs (rowF one more f b c acc).2.2.1 + 2 * rest (rowF one more f b c acc).2.1 ≤ szs acc + 2 * rest c
 | 0, b, c, acc => fun h => absurd h (by omega)
 | f + 1, b, c, acc => fun hf => by
   have h3 := (hm b c).2.1
   have h4 := (ho.m (more b c).2.1).2.1
   rw [rowF]
   split
   ·split
    ·rename_i h
     have h1 := ho.l _ h
     have h5 := hz _ h
     have h2 := qbad hz f (more b c).1 (one (more b c).2.1).1 (acc ++ [(one (more b c).2.1).2.1]) (by omega)
     rw [qhe] at h2
     simp only [szs] at h2
     omega
    ·simp only; omega
   ·simp only; omega
theorem qgy (b : Bool) (c : K) (acc : List N) : Mon c (rowS one more b c acc).2.1 := q1o ho hm _ b c acc
theorem qbij (b : Bool) (c : K) (acc : List N) : (rowS one more b c acc).2.2.1.length + rest (rowS one more b c acc).2.1 ≤ acc.length + rest c := q3f ho hm _ b c acc
theorem qre (hz : ∀ c, SzB c (one c)) (b : Bool) (c : K) (acc : List N) : szs (rowS one more b c acc).2.2.1 + 2 * rest (rowS one more b c acc).2.1 ≤ szs acc + 2 * rest c := qbad ho hm hz _ b c acc (Nat.lt_succ_self _)
end
theorem goes_atom : Goes qde := ⟨fun c => qey (qcy _) c, fun c h => qea (qcy _) h⟩
theorem szA : ∀ c, SzO c (qgh c) := fun c n h => by
 have h1 := qea (qcy (rest c + 2)) (c := c) (by unfold qgh at h; rw [h]; rfl)
 have h2 := qlp (qng (rest c + 2)) h
 unfold qgh at h ⊢
 omega
theorem qp0 {c : K} (h : qd7 c = true) : (qde c).2.2 = true := by
 have hk : (qq c).kind = 1 := by simpa [qd7] using h
 unfold qde ofO qgh
 rw [qbz, if_pos hk]; rfl
theorem qvi : ∀ (f : Nat) (b : Bool) (c : K) (acc : List N), rest c < f → (rowF qde (qfr qd7) f b c acc).2.2.2 = true
 | 0, _, _, _, h => absurd h (by omega)
 | f + 1, b, c, acc, hf => by
   rw [rowF]
   cases ha : qd7 c with
   | false =>
     rw [if_neg (by show ¬ qd7 c = true; rw [ha]; decide)]
   | true =>
     have h1 := goes_atom.l c (qp0 ha)
     rw [if_pos (show (qfr qd7 b c).2.2 = true from ha), if_pos (show (qde (qfr qd7 b c).2.1).2.2 = true from qp0 ha)]
     exact qvi f _ _ _ (by show rest (qde c).1 < f; omega)
theorem q2x {c : K} {r : K × Option N} (h : SzO c r) : SzB c (ofO r) := fun hs => qgw h hs
theorem goes_con : Goes conK where
 m := fun c => by
   unfold conK
   split
   ·exact (qbf c 2).trans (qgy goes_atom (monA _) _ _ _)
   ·exact qbf c 2
 l := fun c h => by
   unfold conK at h ⊢
   split at h
   ·rename_i h1
    rw [if_pos h1]
    have h2 := qon (by decide) h1
    have h3 := (qgy goes_atom (monA begT) false (qn c 2).1 []).2.1
    simp only; omega
   ·cases h
theorem qchf : ∀ c, SzB c (conK c) := fun c h => by
 unfold conK at h ⊢
 split at h
 ·rename_i h1
  rw [if_pos h1]
  have h2 := qon (by decide) h1
  have h3 := qre goes_atom (monA begT) (fun c => q2x (szA c)) false (qn c 2).1 []
  simp only [szs] at h3
  simp only [conN, qkj]; omega
 ·cases h
theorem qnm (c : K) : Mon c (qh3 c).1 := qfv (qi5 _) c
theorem qs2 {c : K} (h : (qh3 c).2.isSome = true) : rest (qh3 c).1 < rest c := qkq (qi5 _) h
theorem qvb : ∀ c, SzO c (qh3 c) := fun c => q1l (qbmt _) c
theorem q9x (p : Int) (t : T) (v : List N) (w : K × Bool) : Mon w.1 (qzy p t v w).1 := by
 unfold qzy
 split
 ·exact qgy goes_con (monF _) _ _ _
 ·exact Mon.refl _
theorem qqi (p : Int) (c : K) : Mon c (qmk p c).1 := by
 unfold qmk q45
 split
 ·exact (((qbf c 2).trans (qgy goes_atom (monA _) _ _ _)).trans (qd _ _)).trans (q9x _ _ _ _)
 ·exact qbf c 2
theorem qeg (kind : Int) : Goes (qbn kind) where
 m := fun c => by
   unfold qbn
   split
   ·exact (qnm c).trans (qef _ _)
   ·exact qnm c
 l := fun c h => by
   unfold qbn at h ⊢
   split at h
   ·cases h
   ·rename_i h1
    rw [if_neg h1]
    exact qs2 h
theorem q6d (kind : Int) : ∀ c, SzB c (qbn kind c) := fun c h => by
 unfold qbn at h ⊢
 split at h
 ·cases h
 ·rename_i h1
  rw [if_neg h1]
  exact q2x (qvb c) h
theorem qzm (r : RL) : Mon r.1 (qob r).1 := by
 unfold qob
 split
 ·exact qd _ _
 ·exact Mon.refl _
theorem q86 (kind : Int) (c : K) (out : List N) : Mon c (qdq kind c out).1 := by
 unfold qdq
 split
 ·split
  ·exact (((qd c _).trans (qd _ _)).trans (qgy (qeg kind) monB _ _ _)).trans (qzm _)
  ·exact (qd c _).trans (qd _ _)
 ·exact qd c _
theorem qbh6 (kind : Int) (c : K) (out : List N) : szs (qdq kind c out).2.1 + 2 * rest (qdq kind c out).1 ≤ szs out + 2 * rest c := by
 have h1 := (qd c [119, 104, 101, 114, 101]).2.1
 have h2 := (qd (qi c [119, 104, 101, 114, 101]).1 [123]).2.1
 unfold qdq
 split
 ·split
  ·have h3 := qre (qeg kind) monB (q6d kind) false (qi (qi c [119, 104, 101, 114, 101]).1 [123]).1 out
   have h4 := (qzm (rowS (qbn kind) qgu false (qi (qi c [119, 104, 101, 114, 101]).1 [123]).1 out).2).2.1
   unfold qob at h4 ⊢
   split
   ·rename_i h5
    rw [if_pos h5] at h4
    simp only at h4 ⊢; omega
   ·omega
  ·simp only; omega
 ·simp only; omega
theorem qhw (c : K) : Mon c (qgh c).1 := qey (qcy _) c
theorem qgp (c : K) : Mon c (qd4 c).1 := qg3 (qcy _) c
theorem q6r (k p : Int) (t : T) (v : List N) (c : K) : Mon c (qz6 k p t v c).1 := by
 unfold qz6 q4h
 split
 ·exact qef _ _
 ·split
  ·exact (qhw c).trans (q86 _ _ _)
  ·exact qhw c
theorem qni (k p : Int) (c : K) : Mon c (ql1 k p c).1 := by
 unfold ql1 q4m
 split
 ·split
  ·exact ((qgp c).trans (qbf _ _)).trans (q6r _ _ _ _ _)
  ·exact (qgp c).trans (qbf _ _)
 ·exact qgp c
theorem goes_decl : Goes qdv where
 m := fun c => by
   unfold qdv
   split
   ·exact (qk c _).trans (qqi _ _)
   ·split
    ·exact (qk c _).trans (qni _ _ _)
    ·split
     ·exact (qk c _).trans (qni _ _ _)
     ·exact qnm c
 l := fun c h => by
   unfold qdv at h ⊢
   split at h
   ·rename_i h1
    rw [if_pos h1]
    have h2 := qcx h1
    have h3 := (qqi (qq c).pos (qf c qpi).1).2.1
    omega
   ·rename_i h1
    rw [if_neg h1]
    split at h
    ·rename_i h1
     rw [if_pos h1]
     have h2 := qcx h1
     have h3 := (qni 35 (qq c).pos (qf c qkc).1).2.1
     omega
    ·rename_i h1
     rw [if_neg h1]
     split at h
     ·rename_i h1
      rw [if_pos h1]
      have h2 := qcx h1
      have h3 := (qni 36 (qq c).pos (qf c qpn).1).2.1
      omega
     ·rename_i h1
      rw [if_neg h1]
      exact qs2 h
theorem q3q {c : K} {l : List N} (h : (qd4 c).2 = some l) : l.length ≤ rest c := qo2 (qcy _) h
theorem qyh {c : K} {l : List N} (h : (qd4 c).2 = some l) : szs l + rest (qd4 c).1 ≤ rest c := by
 have h0 := (qk c [40]).2.1
 have hm := qcy (rest c + 2)
 unfold qd4 at h ⊢
 unfold qbj at h ⊢
 split at h
 ·rename_i h1
  rw [if_pos h1]
  have h2 := qj3 h
  have hB : szs l + rest (qg4 (qb3 (rest c + 2)) c).1 ≤ rest c := by
   unfold qg4 at h2 ⊢
   split at h2
   ·rename_i h3
    rw [if_pos h3]
    cases h2
    simp only [szs]; omega
   ·rename_i h3
    rw [if_neg h3]
    have h4 := qr7 (qng (rest c + 2)) _ _ _ _ _ h2
    simp only [szs] at h4
    omega
  unfold qgi at h ⊢
  generalize qg4 (qb3 (rest c + 2)) c = r at *
  have h5 := (qd r.1 [41]).2.1
  have h6 := (qd (qi r.1 [41]).1 [61, 62]).2.1
  have h7 := (qd r.1 [61, 62]).2.1
  repeat' split
  all_goals (simp only; omega)
 ·rename_i h1
  rw [if_neg h1]
  simp only at h ⊢
  split at h
  ·cases h
  ·cases h; simp only [szs]; omega
theorem q2w (p : Int) (c : K) : sz (qmk p c).2.1 + 2 * rest (qmk p c).1 ≤ 2 * rest c + 1 := by
 have h1 := (qbf c 2).2.1
 have h2 := (qqi p c).2.1
 unfold qmk q45 qzy at h2 ⊢
 split
 ·have h3 := qre goes_atom (monA qd7) (fun c => q2x (szA c)) false (qn c 2).1 []
  generalize rowS qde (qfr qd7) false (qn c 2).1 [] = r at *
  have h4 := (qd r.2.1 [61]).2.1
  simp only [szs] at h3
  split
  ·have h5 := qre goes_con (monF [124]) qchf false (qi r.2.1 [61]).1 r.2.2.1
   simp only [qrn, qkj]; omega
  ·simp only [posN, qkj, szs]; omega
 ·simp only [posN, qkj, szs]; omega
theorem qpw (k p : Int) (c : K) : sz (ql1 k p c).2.1 + 2 * rest (ql1 k p c).1 ≤ 2 * rest c + 1 := by
 have h1 := (qgp c).2.1
 unfold ql1 q4m
 split
 ·rename_i h2
  obtain ⟨l, hl⟩ := Option.isSome_iff_exists.1 h2
  have h3 := qyh hl
  rw [hl, Option.getD_some]
  have h4 := (qbf (qd4 c).1 2).2.1
  split
  ·unfold qz6 q4h
   generalize (qn (qd4 c).1 2).1 = d at *
   split
   ·have := (qef d 5).2.1
    simp only [qkn, qkj, szs]; omega
   ·have h5 := (qhw d).2.1
    split
    ·rename_i h6
     have h7 := qgw (szA d) h6
     have h8 := qbh6 (if k = 35 then 32 else 31) (qgh d).1 (l ++ [(qgh d).2.getD N0])
     rw [qhe] at h8
     simp only [szs] at h8
     simp only [qkn, qkj]; omega
    ·simp only [qkn, qkj, szs]; omega
  ·simp only [q5t, qkj, szs]; omega
 ·simp only [q5t, qkj, szs]; omega
theorem qbi6 (c : K) : sz (qdv c).2.1 + 2 * rest (qdv c).1 ≤ 2 * rest c + 1 := by
 have hb := qvb c
 have hb2 := (qnm c).2.1
 unfold qdv
 split
 ·have h1 := (qk c qpi).2.1
  have := q2w (qq c).pos (qf c qpi).1
  omega
 ·split
  ·have h1 := (qk c qkc).2.1
   have := qpw 35 (qq c).pos (qf c qkc).1
   omega
  ·split
   ·have h1 := (qk c qpn).2.1
    have := qpw 36 (qq c).pos (qf c qpn).1
    omega
   ·unfold ofO
    cases hq : (qh3 c).2 with
    | none =>
      have : sz N0 = 1 := by rw [qki]; rfl
      simp only [Option.getD_none]; omega
    | some n =>
      have := hb n hq
      simp only [Option.getD_some]; omega
theorem q7n : ∀ c, SzB c (qdv c) := fun c h => by
 unfold qdv at h ⊢
 split at h
 ·rename_i h1
  rw [if_pos h1]
  have h2 := qcx h1
  have := q2w (qq c).pos (qf c qpi).1
  omega
 ·rename_i h1
  rw [if_neg h1]
  split at h
  ·rename_i h1
   rw [if_pos h1]
   have h2 := qcx h1
   have := qpw 35 (qq c).pos (qf c qkc).1
   omega
  ·rename_i h1
   rw [if_neg h1]
   split at h
   ·rename_i h1
    rw [if_pos h1]
    have h2 := qcx h1
    have := qpw 36 (qq c).pos (qf c qpn).1
    omega
   ·rename_i h1
    rw [if_neg h1]
    exact q2x (qvb c) h
theorem q7o (c : K) : Mon c (qoj c).1 := qgy goes_decl monP _ _ _
theorem qbki (c : K) : Mon c (decK c).1 := goes_decl.m c
theorem q2u (c : K) : sz ((qoj c).2.getD N0) ≤ 2 * rest c + 1 := by
 have := qre goes_decl monP q7n false c []
 simp only [szs] at this
 simp only [qoj, Option.getD_some, qpg, qkj]; omega
theorem qb3y (c : K) : sz ((decK c).2.getD N0) ≤ 2 * rest c + 1 := by
 have := qbi6 c
 simp only [decK, Option.getD_some]; omega
end Go.Proofs.YtfjbmjplnmaclaaGreat

/- declarations: the program: rows (printed by tools/rows.py) -/
set_option maxRecDepth 4000
namespace Go.Proofs.YtfjbmjplnmaclaaGreat
open Go Go.RowKit Go.V
set_option linter.unusedVariables false
set_option linter.unusedSimpArgs false

def frA (b : Bool) (c : K) : List Ent := [curE c, .blk [.ptr 0 0]]
theorem q1z (b : Bool) (c : K) : (frA b c).all (Ent.bd 2) = true := by
 simp only [frA, List.all_cons, List.all_nil, qbi, Bool.true_and, Bool.and_true]; rfl
theorem qp1 {g : FuncId} {b : Bool} {c c' : K} {r : N × Bool} {L : List Ent} {Q : List Ent → VO → Prop} (h : VCalls Tryz.prog g [curE c, .blk [.ptr 0 0]] [.ptr 1 0] fun H' o => H' = (frA b c') ∧ o = .val (resB r)) (hq : Q (curE c' :: .blk [.ptr 0 0] :: L) (.val (resB r))) :
 VApp Tryz.prog (curE c :: .blk [.ptr 0 0] :: L) (.fn g [] [.ptr 1 0]) [] Q :=
 qcd (first := []) (caps := [.ptr 1 0]) (by
  simp only [List.nil_append]
  refine qdk (H0 := [curE c, .blk [.ptr 0 0]]) (L := L) h (q1z b c) rfl ?_
  rintro H1 o ⟨rfl, rfl⟩
  exact ⟨rfl, q1z _ _, qn3 _ _, hq⟩)
theorem qjb {g : FuncId} {b' a : Bool} {c c' : K} {L : List Ent} {Q : List Ent → VO → Prop} (h : VCalls Tryz.prog g [curE c, .blk [.ptr 0 0]] [.ptr 1 0] fun H' o => H' = (frA b' c') ∧ o = .val (.bool a)) (hq : Q (curE c' :: .blk [.ptr 0 0] :: L) (.val (.bool a))) :
 VApp Tryz.prog (curE c :: .blk [.ptr 0 0] :: L) (.fn g [] [.ptr 1 0]) [] Q :=
 qcd (first := []) (caps := [.ptr 1 0]) (by
  simp only [List.nil_append]
  refine qdk (H0 := [curE c, .blk [.ptr 0 0]]) (L := L) h (q1z false c) rfl ?_
  rintro H1 o ⟨rfl, rfl⟩
  exact ⟨rfl, q1z _ _, rfl, hq⟩)
def RowA (one : K → R3) (more : MF) (g1 g2 : FuncId) (b : Bool) (c : K) : Prop :=
 VCalls Tryz.prog 15 [curE c, .blk [.ptr 0 0]] [.nils, .fn g1 [] [.ptr 1 0], .fn g2 [] [.ptr 1 0]] fun H' o =>
  H' = curE (rowS one more b c []).2.1 :: .blk [.ptr 0 0] :: accE 5 (encs (rowS one more b c []).2.2.1) ∧ o = .val (.tup [accV 2 (encs (rowS one more b c []).2.2.1), .bool (rowS one more b c []).2.2.2])
def qx3 (g1 g2 : FuncId) (s : Bool × Nat × K × List N) : AF × List Ent :=
 (⟨[(0, accV 2 (encs s.2.2.2)), (1, .fn g1 [] [.ptr 1 0]), (2, .fn g2 [] [.ptr 1 0])], []⟩, curE s.2.2.1 :: .blk [.ptr 0 0] :: accE 5 (encs s.2.2.2))
theorem qyn {one : K → R3} {more : MF} {g1 g2 : FuncId} {n : Nat} (ho : Goes one) (hm : MonM more)
 (h1 : ∀ b c, c.good → rest c ≤ n → VCalls Tryz.prog g1 [curE c, .blk [.ptr 0 0]] [.ptr 1 0] fun H' o => H' = (frA b (one c).1) ∧ o = .val (resB (one c).2))
 (h2 : ∀ b c, c.good → rest c ≤ n → VCalls Tryz.prog g2 [curE c, .blk [.ptr 0 0]] [.ptr 1 0] fun H' o => H' = (frA (more b c).1 (more b c).2.1) ∧ o = .val (.bool (more b c).2.2))
 (b0 : Bool) (c0 : K) (hg : c0.good) (hr : rest c0 ≤ n) : RowA one more g1 g2 b0 c0 := by
 unfold RowA
 have hl : ([] : List N).length + rest c0 ≤ 1048578 := by have h9 := hg.rest; unfold rest; simp only [List.length_nil]; omega
 obtain ⟨kk, hk1, hk2, hk0⟩ : ∃ k : Nat, ((rowS one more b0 c0 []).2.2.1 = [] → k = 2) ∧ ((rowS one more b0 c0 []).2.2.1 ≠ [] → k = 3) ∧ 2 ≤ k := by
  by_cases h : (rowS one more b0 c0 []).2.2.1 = []
  ·exact ⟨2, fun _ => rfl, fun g => absurd h g, Nat.le_refl _⟩
  ·exact ⟨3, fun g => absurd g h, fun _ => rfl, Nat.le_succ _⟩
 refine qd5 c0be kk (by simpa using hk0) (by simp) ?_
 generalize htg : rowS one more b0 c0 [] = tg at hk1 hk2 ⊢
 unfold rowS at htg
 repeat' (first | refine vs_ ?_ | ((first | refine vr_ ?_ | (refine cs_ ?_ ?_ <;> intro hc) | refine cj_ ?_ | fail) <;> (try refine ev_ ?_)) | with_reducible exact ti_)
 refine qbm (S := Bool × Nat × K × List N) (fun s => s.2.2.1.good ∧ rest s.2.2.1 ≤ n ∧ rowF one more s.2.1 s.1 s.2.2.1 s.2.2.2 = tg ∧ rest s.2.2.1 < s.2.1 ∧ s.2.2.2.length + rest s.2.2.1 ≤ 1048578) (qx3 g1 g2) (fun s => rest s.2.2.1) ?_ ?_
 ·refine q8 (b0, rest c0 + 1, c0, []) [0, 1] ⟨hg, hr, htg, Nat.lt_succ_self _, hl⟩ rfl (by simp) ?_ ?_ ?_
  all_goals simp only [qx3, encs, qr, qt]
  all_goals (refine ev_ ?_; (try with_reducible exact ti_))
 ·rintro ⟨fl, fu, d, acc⟩ ⟨i1, i2, i3, i4, i5⟩
  simp only at i1 i2 i3 i4 i5
  obtain ⟨fu, rfl⟩ : ∃ k, fu = k + 1 := ⟨fu - 1, by omega⟩
  rw [rowF] at i3
  have hcap : qdp (acc.length + 1) 64 := capN (by omega)
  have hmore := h2 fl d i1 i2
  have g1 := (hm fl d).1 i1
  have r1 := (hm fl d).2.1
  have hone := h1 (more fl d).1 (more fl d).2.1 g1 (by omega)
  have g2 := (ho.m (more fl d).2.1).1 g1
  have r2 := (ho.m (more fl d).2.1).2.1
  have hlt := ho.l (more fl d).2.1
  unfold qx3
  generalize more fl d = M at *
  obtain ⟨fl', d', ans⟩ := M
  simp only at hmore g1 r1 hone g2 r2 hlt i3
  generalize one d' = r at *
  obtain ⟨e, y, ok⟩ := r
  simp only at hone g2 r2 hlt i3
  cases ans with
  | false =>
    rw [if_neg (by simp)] at i3
    subst i3
    by_cases h0 : acc = []
    ·subst h0
     obtain rfl := hk1 rfl
     simp only [encs, qr, qt]
     repeat' (first | refine vs_ ?_ | ((first | refine vr_ ?_ | refine qjb hmore ?_ | (refine cs_ ?_ ?_ <;> intro hc) | refine cj_ ?_ | fail) <;> (try refine ev_ ?_)) | with_reducible exact ti_)
     all_goals first | exact ⟨rfl, rfl⟩
    ·have hne := q9 h0
     obtain rfl := hk2 h0
     simp only [qbc hne, qbd hne, qx]
     repeat' (first | refine vs_ ?_ | ((first | refine vr_ ?_ | refine qjb hmore ?_ | (refine cs_ ?_ ?_ <;> intro hc) | refine cj_ ?_ | fail) <;> (try refine ev_ ?_)) | with_reducible exact ti_)
     all_goals first | exact ⟨rfl, rfl⟩
  | true =>
    rw [if_pos rfl] at i3
    cases ok with
    | false =>
      rw [if_neg (by simp)] at i3
      subst i3
      by_cases h0 : acc = []
      ·subst h0
       obtain rfl := hk1 rfl
       simp only [encs, qr, qt]
       repeat' (first | refine vs_ ?_ | ((first | refine vr_ ?_ | refine qjb hmore ?_ | refine qp1 hone ?_ | (refine cs_ ?_ ?_ <;> intro hc) | refine cj_ ?_ | fail) <;> (try refine ev_ ?_)) | with_reducible exact ti_)
       all_goals first | exact ⟨rfl, rfl⟩
      ·have hne := q9 h0
       obtain rfl := hk2 h0
       simp only [qbc hne, qbd hne, qx]
       repeat' (first | refine vs_ ?_ | ((first | refine vr_ ?_ | refine qjb hmore ?_ | refine qp1 hone ?_ | (refine cs_ ?_ ?_ <;> intro hc) | refine cj_ ?_ | fail) <;> (try refine ev_ ?_)) | with_reducible exact ti_)
       all_goals first | exact ⟨rfl, rfl⟩
    | true =>
      have hlt := hlt rfl
      rw [if_pos rfl] at i3
      have hne3 : ¬ acc ++ [y] = [] := by simp
      have hlen : (acc ++ [y]).length = acc.length + 1 := by simp
      by_cases h0 : acc = []
      ·subst h0
       simp only [encs, qr, qt]
       repeat' (first | refine vs_ ?_ | ((first | refine vr_ ?_ | refine qjb hmore ?_ | refine qp1 hone ?_ | (refine cs_ ?_ ?_ <;> intro hc) | refine cj_ ?_ | fail) <;> (try refine ev_ ?_)) | with_reducible exact ti_)
       refine q8 (fl', fu, e, [] ++ [y]) [0, 1, 3] ⟨⟨g2, by simp only; omega, i3, by simp only; omega, by simp only [hlen]; omega⟩, by simp only; omega⟩ rfl (by simp) ?_ ?_ ?_
       all_goals simp only [qx3, qbd (q9 hne3), qbc (q9 hne3), qx, hlen, ← qe]
       all_goals (refine ev_ ?_; (try with_reducible exact ti_))
       all_goals first | (rw [qe]; exact qo _ _) | exact ⟨rfl, rfl⟩ | rfl | (rw [qe, qo, qbb]; exact ⟨rfl, rfl⟩)
      ·have hne := q9 h0
       simp only [qbc hne, qbd hne, qx]
       repeat' (first | refine vs_ ?_ | ((first | refine vr_ ?_ | refine qjb hmore ?_ | refine qp1 hone ?_ | (refine cs_ ?_ ?_ <;> intro hc) | refine cj_ ?_ | fail) <;> (try refine ev_ ?_)) | with_reducible exact ti_)
       refine q8 (fl', fu, e, acc ++ [y]) [0, 1, 4] ⟨⟨g2, by simp only; omega, i3, by simp only; omega, by simp only [hlen]; omega⟩, by simp only; omega⟩ rfl (by simp) ?_ ?_ ?_
       all_goals simp only [qx3, qbd (q9 hne3), qbc (q9 hne3), qx, hlen, ← qe]
       all_goals (refine ev_ ?_; (try with_reducible exact ti_))
       all_goals first | (rw [qe]; exact qo _ _) | exact ⟨rfl, rfl⟩ | rfl | (rw [qe, qo, qbb]; exact ⟨rfl, rfl⟩)

def frD (x : List UInt8) (b : Bool) (c : K) : List Ent := [curE c, .blk [.ptr 0 0], .blk [.ptr 0 0], .blk [.str x], .blk [.bool b]]
theorem q2h {x : List UInt8} (b : Bool) (c : K) : (frD x b c).all (Ent.bd 5) = true := by
 simp only [frD, List.all_cons, List.all_nil, qbi, Bool.true_and, Bool.and_true]; rfl
theorem qij {g : FuncId} {x : List UInt8} {b : Bool} {c c' : K} {r : N × Bool} {L : List Ent} {Q : List Ent → VO → Prop} (h : VCalls Tryz.prog g [curE c, .blk [.ptr 0 0], .blk [.ptr 0 0], .blk [.str x], .blk [.bool b]] [.ptr 1 0] fun H' o => H' = (frD x b c') ∧ o = .val (resB r)) (hq : Q (curE c' :: .blk [.ptr 0 0] :: .blk [.ptr 0 0] :: .blk [.str x] :: .blk [.bool b] :: L) (.val (resB r))) :
 VApp Tryz.prog (curE c :: .blk [.ptr 0 0] :: .blk [.ptr 0 0] :: .blk [.str x] :: .blk [.bool b] :: L) (.fn g [] [.ptr 1 0]) [] Q :=
 qcd (first := []) (caps := [.ptr 1 0]) (by
  simp only [List.nil_append]
  refine qdk (H0 := [curE c, .blk [.ptr 0 0], .blk [.ptr 0 0], .blk [.str x], .blk [.bool b]]) (L := L) h (q2h (x := x) b c) rfl ?_
  rintro H1 o ⟨rfl, rfl⟩
  exact ⟨rfl, q2h _ _, qn3 _ _, hq⟩)
theorem qei {g : FuncId} {x : List UInt8} {b b' a : Bool} {c c' : K} {L : List Ent} {Q : List Ent → VO → Prop} (h : VCalls Tryz.prog g [curE c, .blk [.ptr 0 0], .blk [.ptr 0 0], .blk [.str x], .blk [.bool b]] [.ptr 4 0, .ptr 2 0, .ptr 3 0] fun H' o => H' = (frD x b' c') ∧ o = .val (.bool a)) (hq : Q (curE c' :: .blk [.ptr 0 0] :: .blk [.ptr 0 0] :: .blk [.str x] :: .blk [.bool b'] :: L) (.val (.bool a))) :
 VApp Tryz.prog (curE c :: .blk [.ptr 0 0] :: .blk [.ptr 0 0] :: .blk [.str x] :: .blk [.bool b] :: L) (.fn g [] [.ptr 4 0, .ptr 2 0, .ptr 3 0]) [] Q :=
 qcd (first := []) (caps := [.ptr 4 0, .ptr 2 0, .ptr 3 0]) (by
  simp only [List.nil_append]
  refine qdk (H0 := [curE c, .blk [.ptr 0 0], .blk [.ptr 0 0], .blk [.str x], .blk [.bool b]]) (L := L) h (q2h (x := x) b c) rfl ?_
  rintro H1 o ⟨rfl, rfl⟩
  exact ⟨rfl, q2h _ _, rfl, hq⟩)
def RowD (one : K → R3) (more : MF) (g1 g2 : FuncId) (x : List UInt8) (b : Bool) (c : K) : Prop :=
 VCalls Tryz.prog 15 [curE c, .blk [.ptr 0 0], .blk [.ptr 0 0], .blk [.str x], .blk [.bool b]] [.nils, .fn g1 [] [.ptr 1 0], .fn g2 [] [.ptr 4 0, .ptr 2 0, .ptr 3 0]] fun H' o =>
  H' = curE (rowS one more b c []).2.1 :: .blk [.ptr 0 0] :: .blk [.ptr 0 0] :: .blk [.str x] :: .blk [.bool (rowS one more b c []).1] :: accE 5 (encs (rowS one more b c []).2.2.1) ∧ o = .val (.tup [accV 5 (encs (rowS one more b c []).2.2.1), .bool (rowS one more b c []).2.2.2])
def qw8 (g1 g2 : FuncId) (x : List UInt8) (s : Bool × Nat × K × List N) : AF × List Ent :=
 (⟨[(0, accV 5 (encs s.2.2.2)), (1, .fn g1 [] [.ptr 1 0]), (2, .fn g2 [] [.ptr 4 0, .ptr 2 0, .ptr 3 0])], []⟩, curE s.2.2.1 :: .blk [.ptr 0 0] :: .blk [.ptr 0 0] :: .blk [.str x] :: .blk [.bool s.1] :: accE 5 (encs s.2.2.2))
theorem q6q {one : K → R3} {more : MF} {g1 g2 : FuncId} {x : List UInt8} {n : Nat} (ho : Goes one) (hm : MonM more)
 (h1 : ∀ b c, c.good → rest c ≤ n → VCalls Tryz.prog g1 [curE c, .blk [.ptr 0 0], .blk [.ptr 0 0], .blk [.str x], .blk [.bool b]] [.ptr 1 0] fun H' o => H' = (frD x b (one c).1) ∧ o = .val (resB (one c).2))
 (h2 : ∀ b c, c.good → rest c ≤ n → VCalls Tryz.prog g2 [curE c, .blk [.ptr 0 0], .blk [.ptr 0 0], .blk [.str x], .blk [.bool b]] [.ptr 4 0, .ptr 2 0, .ptr 3 0] fun H' o => H' = (frD x (more b c).1 (more b c).2.1) ∧ o = .val (.bool (more b c).2.2))
 (b0 : Bool) (c0 : K) (hg : c0.good) (hr : rest c0 ≤ n) : RowD one more g1 g2 x b0 c0 := by
 unfold RowD
 have hl : ([] : List N).length + rest c0 ≤ 1048578 := by have h9 := hg.rest; unfold rest; simp only [List.length_nil]; omega
 obtain ⟨kk, hk1, hk2, hk0⟩ : ∃ k : Nat, ((rowS one more b0 c0 []).2.2.1 = [] → k = 5) ∧ ((rowS one more b0 c0 []).2.2.1 ≠ [] → k = 6) ∧ 5 ≤ k := by
  by_cases h : (rowS one more b0 c0 []).2.2.1 = []
  ·exact ⟨5, fun _ => rfl, fun g => absurd h g, Nat.le_refl _⟩
  ·exact ⟨6, fun g => absurd g h, fun _ => rfl, Nat.le_succ _⟩
 refine qd5 c0be kk (by simpa using hk0) (by simp) ?_
 generalize htg : rowS one more b0 c0 [] = tg at hk1 hk2 ⊢
 unfold rowS at htg
 repeat' (first | refine vs_ ?_ | ((first | refine vr_ ?_ | (refine cs_ ?_ ?_ <;> intro hc) | refine cj_ ?_ | fail) <;> (try refine ev_ ?_)) | with_reducible exact ti_)
 refine qbm (S := Bool × Nat × K × List N) (fun s => s.2.2.1.good ∧ rest s.2.2.1 ≤ n ∧ rowF one more s.2.1 s.1 s.2.2.1 s.2.2.2 = tg ∧ rest s.2.2.1 < s.2.1 ∧ s.2.2.2.length + rest s.2.2.1 ≤ 1048578) (qw8 g1 g2 x) (fun s => rest s.2.2.1) ?_ ?_
 ·refine q8 (b0, rest c0 + 1, c0, []) [0, 1, 2, 3, 4] ⟨hg, hr, htg, Nat.lt_succ_self _, hl⟩ rfl (by simp) ?_ ?_ ?_
  all_goals simp only [qw8, encs, qr, qt]
  all_goals (refine ev_ ?_; (try with_reducible exact ti_))
 ·rintro ⟨fl, fu, d, acc⟩ ⟨i1, i2, i3, i4, i5⟩
  simp only at i1 i2 i3 i4 i5
  obtain ⟨fu, rfl⟩ : ∃ k, fu = k + 1 := ⟨fu - 1, by omega⟩
  rw [rowF] at i3
  have hcap : qdp (acc.length + 1) 64 := capN (by omega)
  have hmore := h2 fl d i1 i2
  have g1 := (hm fl d).1 i1
  have r1 := (hm fl d).2.1
  have hone := h1 (more fl d).1 (more fl d).2.1 g1 (by omega)
  have g2 := (ho.m (more fl d).2.1).1 g1
  have r2 := (ho.m (more fl d).2.1).2.1
  have hlt := ho.l (more fl d).2.1
  unfold qw8
  generalize more fl d = M at *
  obtain ⟨fl', d', ans⟩ := M
  simp only at hmore g1 r1 hone g2 r2 hlt i3
  generalize one d' = r at *
  obtain ⟨e, y, ok⟩ := r
  simp only at hone g2 r2 hlt i3
  cases ans with
  | false =>
    rw [if_neg (by simp)] at i3
    subst i3
    by_cases h0 : acc = []
    ·subst h0
     obtain rfl := hk1 rfl
     simp only [encs, qr, qt]
     repeat' (first | refine vs_ ?_ | ((first | refine vr_ ?_ | refine qei hmore ?_ | (refine cs_ ?_ ?_ <;> intro hc) | refine cj_ ?_ | fail) <;> (try refine ev_ ?_)) | with_reducible exact ti_)
     all_goals first | exact ⟨rfl, rfl⟩
    ·have hne := q9 h0
     obtain rfl := hk2 h0
     simp only [qbc hne, qbd hne, qx]
     repeat' (first | refine vs_ ?_ | ((first | refine vr_ ?_ | refine qei hmore ?_ | (refine cs_ ?_ ?_ <;> intro hc) | refine cj_ ?_ | fail) <;> (try refine ev_ ?_)) | with_reducible exact ti_)
     all_goals first | exact ⟨rfl, rfl⟩
  | true =>
    rw [if_pos rfl] at i3
    cases ok with
    | false =>
      rw [if_neg (by simp)] at i3
      subst i3
      by_cases h0 : acc = []
      ·subst h0
       obtain rfl := hk1 rfl
       simp only [encs, qr, qt]
       repeat' (first | refine vs_ ?_ | ((first | refine vr_ ?_ | refine qei hmore ?_ | refine qij hone ?_ | (refine cs_ ?_ ?_ <;> intro hc) | refine cj_ ?_ | fail) <;> (try refine ev_ ?_)) | with_reducible exact ti_)
       all_goals first | exact ⟨rfl, rfl⟩
      ·have hne := q9 h0
       obtain rfl := hk2 h0
       simp only [qbc hne, qbd hne, qx]
       repeat' (first | refine vs_ ?_ | ((first | refine vr_ ?_ | refine qei hmore ?_ | refine qij hone ?_ | (refine cs_ ?_ ?_ <;> intro hc) | refine cj_ ?_ | fail) <;> (try refine ev_ ?_)) | with_reducible exact ti_)
       all_goals first | exact ⟨rfl, rfl⟩
    | true =>
      have hlt := hlt rfl
      rw [if_pos rfl] at i3
      have hne3 : ¬ acc ++ [y] = [] := by simp
      have hlen : (acc ++ [y]).length = acc.length + 1 := by simp
      by_cases h0 : acc = []
      ·subst h0
       simp only [encs, qr, qt]
       repeat' (first | refine vs_ ?_ | ((first | refine vr_ ?_ | refine qei hmore ?_ | refine qij hone ?_ | (refine cs_ ?_ ?_ <;> intro hc) | refine cj_ ?_ | fail) <;> (try refine ev_ ?_)) | with_reducible exact ti_)
       refine q8 (fl', fu, e, [] ++ [y]) [0, 1, 2, 3, 4, 6] ⟨⟨g2, by simp only; omega, i3, by simp only; omega, by simp only [hlen]; omega⟩, by simp only; omega⟩ rfl (by simp) ?_ ?_ ?_
       all_goals simp only [qw8, qbd (q9 hne3), qbc (q9 hne3), qx, hlen, ← qe]
       all_goals (refine ev_ ?_; (try with_reducible exact ti_))
       all_goals first | (rw [qe]; exact qo _ _) | exact ⟨rfl, rfl⟩ | rfl | (rw [qe, qo, qbb]; exact ⟨rfl, rfl⟩)
      ·have hne := q9 h0
       simp only [qbc hne, qbd hne, qx]
       repeat' (first | refine vs_ ?_ | ((first | refine vr_ ?_ | refine qei hmore ?_ | refine qij hone ?_ | (refine cs_ ?_ ?_ <;> intro hc) | refine cj_ ?_ | fail) <;> (try refine ev_ ?_)) | with_reducible exact ti_)
       refine q8 (fl', fu, e, acc ++ [y]) [0, 1, 2, 3, 4, 7] ⟨⟨g2, by simp only; omega, i3, by simp only; omega, by simp only [hlen]; omega⟩, by simp only; omega⟩ rfl (by simp) ?_ ?_ ?_
       all_goals simp only [qw8, qbd (q9 hne3), qbc (q9 hne3), qx, hlen, ← qe]
       all_goals (refine ev_ ?_; (try with_reducible exact ti_))
       all_goals first | (rw [qe]; exact qo _ _) | exact ⟨rfl, rfl⟩ | rfl | (rw [qe, qo, qbb]; exact ⟨rfl, rfl⟩)
def RovD (one : K → R3) (more : MF) (g1 g2 : FuncId) (x : List UInt8) (b : Bool) (c : K) (a0 : List N) : Prop :=
 VCalls Tryz.prog 15 (curE c :: .blk [.ptr 0 0] :: .blk [.ptr 0 0] :: .blk [.str x] :: .blk [.bool b] :: [.app 5 (encs a0)]) [.row 5 a0.length, .fn g1 [] [.ptr 1 0], .fn g2 [] [.ptr 4 0, .ptr 2 0, .ptr 3 0]] fun H' o =>
  ((rowS one more b c a0).2.2.1 = a0 → H' = curE (rowS one more b c a0).2.1 :: .blk [.ptr 0 0] :: .blk [.ptr 0 0] :: .blk [.str x] :: .blk [.bool (rowS one more b c a0).1] :: [.app 5 (encs a0)] ∧ o = .val (.tup [.row 5 a0.length, .bool (rowS one more b c a0).2.2.2])) ∧
  ((rowS one more b c a0).2.2.1 ≠ a0 → H' = curE (rowS one more b c a0).2.1 :: .blk [.ptr 0 0] :: .blk [.ptr 0 0] :: .blk [.str x] :: .blk [.bool (rowS one more b c a0).1] :: .dead :: [.app 5 (encs (rowS one more b c a0).2.2.1)] ∧ o = .val (.tup [.row 6 (rowS one more b c a0).2.2.1.length, .bool (rowS one more b c a0).2.2.2]))
def qyb (g1 g2 : FuncId) (x : List UInt8) (a0 : List N) (s : Bool × Nat × K × List N) : AF × List Ent :=
 if s.2.2.2.length = a0.length then (⟨[(0, .row 5 a0.length), (1, .fn g1 [] [.ptr 1 0]), (2, .fn g2 [] [.ptr 4 0, .ptr 2 0, .ptr 3 0])], []⟩, curE s.2.2.1 :: .blk [.ptr 0 0] :: .blk [.ptr 0 0] :: .blk [.str x] :: .blk [.bool s.1] :: [.app 5 (encs a0)])
 else (⟨[(0, .row 6 s.2.2.2.length), (1, .fn g1 [] [.ptr 1 0]), (2, .fn g2 [] [.ptr 4 0, .ptr 2 0, .ptr 3 0])], []⟩, curE s.2.2.1 :: .blk [.ptr 0 0] :: .blk [.ptr 0 0] :: .blk [.str x] :: .blk [.bool s.1] :: .dead :: [.app 5 (encs s.2.2.2)])
theorem q74 {one : K → R3} {more : MF} {g1 g2 : FuncId} {x : List UInt8} {n : Nat} (ho : Goes one) (hm : MonM more)
 (h1 : ∀ b c, c.good → rest c ≤ n → VCalls Tryz.prog g1 [curE c, .blk [.ptr 0 0], .blk [.ptr 0 0], .blk [.str x], .blk [.bool b]] [.ptr 1 0] fun H' o => H' = (frD x b (one c).1) ∧ o = .val (resB (one c).2))
 (h2 : ∀ b c, c.good → rest c ≤ n → VCalls Tryz.prog g2 [curE c, .blk [.ptr 0 0], .blk [.ptr 0 0], .blk [.str x], .blk [.bool b]] [.ptr 4 0, .ptr 2 0, .ptr 3 0] fun H' o => H' = (frD x (more b c).1 (more b c).2.1) ∧ o = .val (.bool (more b c).2.2))
 (b0 : Bool) (c0 : K) (a0 : List N) (hg : c0.good) (hr : rest c0 ≤ n) (hl : a0.length + rest c0 ≤ 1048578) : RovD one more g1 g2 x b0 c0 a0 := by
 unfold RovD
 obtain ⟨kk, hk1, hk2, hk0⟩ : ∃ k : Nat, ((rowS one more b0 c0 a0).2.2.1 = a0 → k = 6) ∧ ((rowS one more b0 c0 a0).2.2.1 ≠ a0 → k = 7) ∧ 6 ≤ k := by
  by_cases h : (rowS one more b0 c0 a0).2.2.1 = a0
  ·exact ⟨6, fun _ => rfl, fun g => absurd h g, Nat.le_refl _⟩
  ·exact ⟨7, fun g => absurd g h, fun _ => rfl, Nat.le_succ _⟩
 refine qd5 c0be kk (by simpa using hk0) (by simp) ?_
 generalize htg : rowS one more b0 c0 a0 = tg at hk1 hk2 ⊢
 unfold rowS at htg
 repeat' (first | refine vs_ ?_ | ((first | refine vr_ ?_ | (refine cs_ ?_ ?_ <;> intro hc) | refine cj_ ?_ | fail) <;> (try refine ev_ ?_)) | with_reducible exact ti_)
 refine qbm (S := Bool × Nat × K × List N) (fun s => s.2.2.1.good ∧ rest s.2.2.1 ≤ n ∧ rowF one more s.2.1 s.1 s.2.2.1 s.2.2.2 = tg ∧ rest s.2.2.1 < s.2.1 ∧ s.2.2.2.length + rest s.2.2.1 ≤ 1048578 ∧ a0.length ≤ s.2.2.2.length ∧ (s.2.2.2.length = a0.length → s.2.2.2 = a0)) (qyb g1 g2 x a0) (fun s => rest s.2.2.1) ?_ ?_
 ·refine q8 (b0, rest c0 + 1, c0, a0) [0, 1, 2, 3, 4, 5] ⟨hg, hr, htg, Nat.lt_succ_self _, hl, Nat.le_refl _, fun _ => rfl⟩ rfl (by simp) ?_ ?_ ?_
  all_goals simp only [qyb, if_true]
  all_goals (refine ev_ ?_; (try with_reducible exact ti_))
  all_goals first | exact qo _ _ | exact ⟨rfl, rfl⟩ | rfl | (rw [qo, qbb]; exact ⟨rfl, rfl⟩)
 ·rintro ⟨fl, fu, d, acc⟩ ⟨i1, i2, i3, i4, i5, i6, i7⟩
  simp only at i6 i7
  simp only at i1 i2 i3 i4 i5
  obtain ⟨fu, rfl⟩ : ∃ k, fu = k + 1 := ⟨fu - 1, by omega⟩
  rw [rowF] at i3
  have hcap : qdp (acc.length + 1) 64 := capN (by omega)
  have hmore := h2 fl d i1 i2
  have g1 := (hm fl d).1 i1
  have r1 := (hm fl d).2.1
  have hone := h1 (more fl d).1 (more fl d).2.1 g1 (by omega)
  have g2 := (ho.m (more fl d).2.1).1 g1
  have r2 := (ho.m (more fl d).2.1).2.1
  have hlt := ho.l (more fl d).2.1
  unfold qyb
  generalize more fl d = M at *
  obtain ⟨fl', d', ans⟩ := M
  simp only at hmore g1 r1 hone g2 r2 hlt i3
  generalize one d' = r at *
  obtain ⟨e, y, ok⟩ := r
  simp only at hone g2 r2 hlt i3
  have hneA : ¬ acc.length + 1 = a0.length := by omega
  have hlen : (acc ++ [y]).length = acc.length + 1 := by simp
  by_cases h0 : acc = a0
  ·have h0l : acc.length = a0.length := by rw [h0]
   simp only [if_pos h0l]
   cases ans with
   | false =>
     rw [if_neg (by simp)] at i3
     subst i3
     obtain rfl := hk1 h0
     repeat' (first | refine vs_ ?_ | ((first | refine vr_ ?_ | refine qei hmore ?_ | (refine cs_ ?_ ?_ <;> intro hc) | refine cj_ ?_ | fail) <;> (try refine ev_ ?_)) | with_reducible exact ti_)
     all_goals exact ⟨fun _ => by first | trivial | exact ⟨rfl, rfl⟩, fun g => absurd h0 g⟩
   | true =>
     rw [if_pos rfl] at i3
     cases ok with
     | false =>
       rw [if_neg (by simp)] at i3
       subst i3
       obtain rfl := hk1 h0
       repeat' (first | refine vs_ ?_ | ((first | refine vr_ ?_ | refine qei hmore ?_ | refine qij hone ?_ | (refine cs_ ?_ ?_ <;> intro hc) | refine cj_ ?_ | fail) <;> (try refine ev_ ?_)) | with_reducible exact ti_)
       all_goals exact ⟨fun _ => by first | trivial | exact ⟨rfl, rfl⟩, fun g => absurd h0 g⟩
     | true =>
       have hlt := hlt rfl
       rw [if_pos rfl] at i3
       subst h0
       repeat' (first | refine vs_ ?_ | ((first | refine vr_ ?_ | refine qei hmore ?_ | refine qij hone ?_ | (refine cs_ ?_ ?_ <;> intro hc) | refine cj_ ?_ | fail) <;> (try refine ev_ ?_)) | with_reducible exact ti_)
       refine q8 (fl', fu, e, acc ++ [y]) [0, 1, 2, 3, 4, 5, 7] ⟨⟨g2, by simp only; omega, i3, by simp only; omega, by simp only [hlen]; omega, by simp only [hlen]; omega, fun h => by simp only [hlen] at h; omega⟩, by simp only; omega⟩ rfl (by simp) ?_ ?_ ?_
       all_goals simp only [qyb, hlen, if_neg hneA, ← qe]
       all_goals (refine ev_ ?_; (try with_reducible exact ti_))
       all_goals first | (rw [qe]; exact qo _ _) | exact ⟨rfl, rfl⟩ | rfl | (rw [qe, qo, qbb]; exact ⟨rfl, rfl⟩)
  ·have h0l : ¬ acc.length = a0.length := fun h => h0 (i7 h)
   simp only [if_neg h0l]
   cases ans with
   | false =>
     rw [if_neg (by simp)] at i3
     subst i3
     obtain rfl := hk2 h0
     repeat' (first | refine vs_ ?_ | ((first | refine vr_ ?_ | refine qei hmore ?_ | (refine cs_ ?_ ?_ <;> intro hc) | refine cj_ ?_ | fail) <;> (try refine ev_ ?_)) | with_reducible exact ti_)
     all_goals exact ⟨fun g => absurd g h0, fun _ => by first | trivial | exact ⟨rfl, rfl⟩⟩
   | true =>
     rw [if_pos rfl] at i3
     cases ok with
     | false =>
       rw [if_neg (by simp)] at i3
       subst i3
       obtain rfl := hk2 h0
       repeat' (first | refine vs_ ?_ | ((first | refine vr_ ?_ | refine qei hmore ?_ | refine qij hone ?_ | (refine cs_ ?_ ?_ <;> intro hc) | refine cj_ ?_ | fail) <;> (try refine ev_ ?_)) | with_reducible exact ti_)
       all_goals exact ⟨fun g => absurd g h0, fun _ => by first | trivial | exact ⟨rfl, rfl⟩⟩
     | true =>
       have hlt := hlt rfl
       rw [if_pos rfl] at i3
       repeat' (first | refine vs_ ?_ | ((first | refine vr_ ?_ | refine qei hmore ?_ | refine qij hone ?_ | (refine cs_ ?_ ?_ <;> intro hc) | refine cj_ ?_ | fail) <;> (try refine ev_ ?_)) | with_reducible exact ti_)
       refine q8 (fl', fu, e, acc ++ [y]) [0, 1, 2, 3, 4, 5, 8] ⟨⟨g2, by simp only; omega, i3, by simp only; omega, by simp only [hlen]; omega, by simp only [hlen]; omega, fun h => by simp only [hlen] at h; omega⟩, by simp only; omega⟩ rfl (by simp) ?_ ?_ ?_
       all_goals simp only [qyb, hlen, if_neg hneA, ← qe]
       all_goals (refine ev_ ?_; (try with_reducible exact ti_))
       all_goals first | (rw [qe]; exact qo _ _) | exact ⟨rfl, rfl⟩ | rfl | (rw [qe, qo, qbb]; exact ⟨rfl, rfl⟩)

def frP (x : List UInt8) (b : Bool) (c : K) : List Ent := [curE c, .blk [.ptr 0 0], .blk [.ptr 0 0], .blk [.str x], .blk [.bool b], .blk [.fn 34 [] [.ptr 4 0, .ptr 2 0, .ptr 3 0]]]
theorem q27 {x : List UInt8} (b : Bool) (c : K) : (frP x b c).all (Ent.bd 6) = true := by
 simp only [frP, List.all_cons, List.all_nil, qbi, Bool.true_and, Bool.and_true]; rfl
theorem qqd {g : FuncId} {x : List UInt8} {b : Bool} {c c' : K} {r : N × Bool} {L : List Ent} {Q : List Ent → VO → Prop} (h : VCalls Tryz.prog g [curE c, .blk [.ptr 0 0], .blk [.ptr 0 0], .blk [.str x], .blk [.bool b], .blk [.fn 34 [] [.ptr 4 0, .ptr 2 0, .ptr 3 0]]] [.ptr 1 0] fun H' o => H' = (frP x b c') ∧ o = .val (resB r)) (hq : Q (curE c' :: .blk [.ptr 0 0] :: .blk [.ptr 0 0] :: .blk [.str x] :: .blk [.bool b] :: .blk [.fn 34 [] [.ptr 4 0, .ptr 2 0, .ptr 3 0]] :: L) (.val (resB r))) :
 VApp Tryz.prog (curE c :: .blk [.ptr 0 0] :: .blk [.ptr 0 0] :: .blk [.str x] :: .blk [.bool b] :: .blk [.fn 34 [] [.ptr 4 0, .ptr 2 0, .ptr 3 0]] :: L) (.fn g [] [.ptr 1 0]) [] Q :=
 qcd (first := []) (caps := [.ptr 1 0]) (by
  simp only [List.nil_append]
  refine qdk (H0 := [curE c, .blk [.ptr 0 0], .blk [.ptr 0 0], .blk [.str x], .blk [.bool b], .blk [.fn 34 [] [.ptr 4 0, .ptr 2 0, .ptr 3 0]]]) (L := L) h (q27 (x := x) b c) rfl ?_
  rintro H1 o ⟨rfl, rfl⟩
  exact ⟨rfl, q27 _ _, qn3 _ _, hq⟩)
theorem qi0 {g : FuncId} {x : List UInt8} {b b' a : Bool} {c c' : K} {L : List Ent} {Q : List Ent → VO → Prop} (h : VCalls Tryz.prog g [curE c, .blk [.ptr 0 0], .blk [.ptr 0 0], .blk [.str x], .blk [.bool b], .blk [.fn 34 [] [.ptr 4 0, .ptr 2 0, .ptr 3 0]]] [.ptr 1 0, .ptr 5 0] fun H' o => H' = (frP x b' c') ∧ o = .val (.bool a)) (hq : Q (curE c' :: .blk [.ptr 0 0] :: .blk [.ptr 0 0] :: .blk [.str x] :: .blk [.bool b'] :: .blk [.fn 34 [] [.ptr 4 0, .ptr 2 0, .ptr 3 0]] :: L) (.val (.bool a))) :
 VApp Tryz.prog (curE c :: .blk [.ptr 0 0] :: .blk [.ptr 0 0] :: .blk [.str x] :: .blk [.bool b] :: .blk [.fn 34 [] [.ptr 4 0, .ptr 2 0, .ptr 3 0]] :: L) (.fn g [] [.ptr 1 0, .ptr 5 0]) [] Q :=
 qcd (first := []) (caps := [.ptr 1 0, .ptr 5 0]) (by
  simp only [List.nil_append]
  refine qdk (H0 := [curE c, .blk [.ptr 0 0], .blk [.ptr 0 0], .blk [.str x], .blk [.bool b], .blk [.fn 34 [] [.ptr 4 0, .ptr 2 0, .ptr 3 0]]]) (L := L) h (q27 (x := x) b c) rfl ?_
  rintro H1 o ⟨rfl, rfl⟩
  exact ⟨rfl, q27 _ _, rfl, hq⟩)
def RowP (one : K → R3) (more : MF) (g1 g2 : FuncId) (x : List UInt8) (b : Bool) (c : K) : Prop :=
 VCalls Tryz.prog 15 [curE c, .blk [.ptr 0 0], .blk [.ptr 0 0], .blk [.str x], .blk [.bool b], .blk [.fn 34 [] [.ptr 4 0, .ptr 2 0, .ptr 3 0]]] [.nils, .fn g1 [] [.ptr 1 0], .fn g2 [] [.ptr 1 0, .ptr 5 0]] fun H' o =>
  H' = curE (rowS one more b c []).2.1 :: .blk [.ptr 0 0] :: .blk [.ptr 0 0] :: .blk [.str x] :: .blk [.bool (rowS one more b c []).1] :: .blk [.fn 34 [] [.ptr 4 0, .ptr 2 0, .ptr 3 0]] :: accE 5 (encs (rowS one more b c []).2.2.1) ∧ o = .val (.tup [accV 6 (encs (rowS one more b c []).2.2.1), .bool (rowS one more b c []).2.2.2])
def qyc (g1 g2 : FuncId) (x : List UInt8) (s : Bool × Nat × K × List N) : AF × List Ent :=
 (⟨[(0, accV 6 (encs s.2.2.2)), (1, .fn g1 [] [.ptr 1 0]), (2, .fn g2 [] [.ptr 1 0, .ptr 5 0])], []⟩, curE s.2.2.1 :: .blk [.ptr 0 0] :: .blk [.ptr 0 0] :: .blk [.str x] :: .blk [.bool s.1] :: .blk [.fn 34 [] [.ptr 4 0, .ptr 2 0, .ptr 3 0]] :: accE 5 (encs s.2.2.2))
theorem qba4 {one : K → R3} {more : MF} {g1 g2 : FuncId} {x : List UInt8} {n : Nat} (ho : Goes one) (hm : MonM more)
 (h1 : ∀ b c, c.good → rest c ≤ n → VCalls Tryz.prog g1 [curE c, .blk [.ptr 0 0], .blk [.ptr 0 0], .blk [.str x], .blk [.bool b], .blk [.fn 34 [] [.ptr 4 0, .ptr 2 0, .ptr 3 0]]] [.ptr 1 0] fun H' o => H' = (frP x b (one c).1) ∧ o = .val (resB (one c).2))
 (h2 : ∀ b c, c.good → rest c ≤ n → VCalls Tryz.prog g2 [curE c, .blk [.ptr 0 0], .blk [.ptr 0 0], .blk [.str x], .blk [.bool b], .blk [.fn 34 [] [.ptr 4 0, .ptr 2 0, .ptr 3 0]]] [.ptr 1 0, .ptr 5 0] fun H' o => H' = (frP x (more b c).1 (more b c).2.1) ∧ o = .val (.bool (more b c).2.2))
 (b0 : Bool) (c0 : K) (hg : c0.good) (hr : rest c0 ≤ n) : RowP one more g1 g2 x b0 c0 := by
 unfold RowP
 have hl : ([] : List N).length + rest c0 ≤ 1048578 := by have h9 := hg.rest; unfold rest; simp only [List.length_nil]; omega
 obtain ⟨kk, hk1, hk2, hk0⟩ : ∃ k : Nat, ((rowS one more b0 c0 []).2.2.1 = [] → k = 6) ∧ ((rowS one more b0 c0 []).2.2.1 ≠ [] → k = 7) ∧ 6 ≤ k := by
  by_cases h : (rowS one more b0 c0 []).2.2.1 = []
  ·exact ⟨6, fun _ => rfl, fun g => absurd h g, Nat.le_refl _⟩
  ·exact ⟨7, fun g => absurd g h, fun _ => rfl, Nat.le_succ _⟩
 refine qd5 c0be kk (by simpa using hk0) (by simp) ?_
 generalize htg : rowS one more b0 c0 [] = tg at hk1 hk2 ⊢
 unfold rowS at htg
 repeat' (first | refine vs_ ?_ | ((first | refine vr_ ?_ | (refine cs_ ?_ ?_ <;> intro hc) | refine cj_ ?_ | fail) <;> (try refine ev_ ?_)) | with_reducible exact ti_)
 refine qbm (S := Bool × Nat × K × List N) (fun s => s.2.2.1.good ∧ rest s.2.2.1 ≤ n ∧ rowF one more s.2.1 s.1 s.2.2.1 s.2.2.2 = tg ∧ rest s.2.2.1 < s.2.1 ∧ s.2.2.2.length + rest s.2.2.1 ≤ 1048578) (qyc g1 g2 x) (fun s => rest s.2.2.1) ?_ ?_
 ·refine q8 (b0, rest c0 + 1, c0, []) [0, 1, 2, 3, 4, 5] ⟨hg, hr, htg, Nat.lt_succ_self _, hl⟩ rfl (by simp) ?_ ?_ ?_
  all_goals simp only [qyc, encs, qr, qt]
  all_goals (refine ev_ ?_; (try with_reducible exact ti_))
 ·rintro ⟨fl, fu, d, acc⟩ ⟨i1, i2, i3, i4, i5⟩
  simp only at i1 i2 i3 i4 i5
  obtain ⟨fu, rfl⟩ : ∃ k, fu = k + 1 := ⟨fu - 1, by omega⟩
  rw [rowF] at i3
  have hcap : qdp (acc.length + 1) 64 := capN (by omega)
  have hmore := h2 fl d i1 i2
  have g1 := (hm fl d).1 i1
  have r1 := (hm fl d).2.1
  have hone := h1 (more fl d).1 (more fl d).2.1 g1 (by omega)
  have g2 := (ho.m (more fl d).2.1).1 g1
  have r2 := (ho.m (more fl d).2.1).2.1
  have hlt := ho.l (more fl d).2.1
  unfold qyc
  generalize more fl d = M at *
  obtain ⟨fl', d', ans⟩ := M
  simp only at hmore g1 r1 hone g2 r2 hlt i3
  generalize one d' = r at *
  obtain ⟨e, y, ok⟩ := r
  simp only at hone g2 r2 hlt i3
  cases ans with
  | false =>
    rw [if_neg (by simp)] at i3
    subst i3
    by_cases h0 : acc = []
    ·subst h0
     obtain rfl := hk1 rfl
     simp only [encs, qr, qt]
     repeat' (first | refine vs_ ?_ | ((first | refine vr_ ?_ | refine qi0 hmore ?_ | (refine cs_ ?_ ?_ <;> intro hc) | refine cj_ ?_ | fail) <;> (try refine ev_ ?_)) | with_reducible exact ti_)
     all_goals first | exact ⟨rfl, rfl⟩
    ·have hne := q9 h0
     obtain rfl := hk2 h0
     simp only [qbc hne, qbd hne, qx]
     repeat' (first | refine vs_ ?_ | ((first | refine vr_ ?_ | refine qi0 hmore ?_ | (refine cs_ ?_ ?_ <;> intro hc) | refine cj_ ?_ | fail) <;> (try refine ev_ ?_)) | with_reducible exact ti_)
     all_goals first | exact ⟨rfl, rfl⟩
  | true =>
    rw [if_pos rfl] at i3
    cases ok with
    | false =>
      rw [if_neg (by simp)] at i3
      subst i3
      by_cases h0 : acc = []
      ·subst h0
       obtain rfl := hk1 rfl
       simp only [encs, qr, qt]
       repeat' (first | refine vs_ ?_ | ((first | refine vr_ ?_ | refine qi0 hmore ?_ | refine qqd hone ?_ | (refine cs_ ?_ ?_ <;> intro hc) | refine cj_ ?_ | fail) <;> (try refine ev_ ?_)) | with_reducible exact ti_)
       all_goals first | exact ⟨rfl, rfl⟩
      ·have hne := q9 h0
       obtain rfl := hk2 h0
       simp only [qbc hne, qbd hne, qx]
       repeat' (first | refine vs_ ?_ | ((first | refine vr_ ?_ | refine qi0 hmore ?_ | refine qqd hone ?_ | (refine cs_ ?_ ?_ <;> intro hc) | refine cj_ ?_ | fail) <;> (try refine ev_ ?_)) | with_reducible exact ti_)
       all_goals first | exact ⟨rfl, rfl⟩
    | true =>
      have hlt := hlt rfl
      rw [if_pos rfl] at i3
      have hne3 : ¬ acc ++ [y] = [] := by simp
      have hlen : (acc ++ [y]).length = acc.length + 1 := by simp
      by_cases h0 : acc = []
      ·subst h0
       simp only [encs, qr, qt]
       repeat' (first | refine vs_ ?_ | ((first | refine vr_ ?_ | refine qi0 hmore ?_ | refine qqd hone ?_ | (refine cs_ ?_ ?_ <;> intro hc) | refine cj_ ?_ | fail) <;> (try refine ev_ ?_)) | with_reducible exact ti_)
       refine q8 (fl', fu, e, [] ++ [y]) [0, 1, 2, 3, 4, 5, 7] ⟨⟨g2, by simp only; omega, i3, by simp only; omega, by simp only [hlen]; omega⟩, by simp only; omega⟩ rfl (by simp) ?_ ?_ ?_
       all_goals simp only [qyc, qbd (q9 hne3), qbc (q9 hne3), qx, hlen, ← qe]
       all_goals (refine ev_ ?_; (try with_reducible exact ti_))
       all_goals first | (rw [qe]; exact qo _ _) | exact ⟨rfl, rfl⟩ | rfl | (rw [qe, qo, qbb]; exact ⟨rfl, rfl⟩)
      ·have hne := q9 h0
       simp only [qbc hne, qbd hne, qx]
       repeat' (first | refine vs_ ?_ | ((first | refine vr_ ?_ | refine qi0 hmore ?_ | refine qqd hone ?_ | (refine cs_ ?_ ?_ <;> intro hc) | refine cj_ ?_ | fail) <;> (try refine ev_ ?_)) | with_reducible exact ti_)
       refine q8 (fl', fu, e, acc ++ [y]) [0, 1, 2, 3, 4, 5, 8] ⟨⟨g2, by simp only; omega, i3, by simp only; omega, by simp only [hlen]; omega⟩, by simp only; omega⟩ rfl (by simp) ?_ ?_ ?_
       all_goals simp only [qyc, qbd (q9 hne3), qbc (q9 hne3), qx, hlen, ← qe]
       all_goals (refine ev_ ?_; (try with_reducible exact ti_))
       all_goals first | (rw [qe]; exact qo _ _) | exact ⟨rfl, rfl⟩ | rfl | (rw [qe, qo, qbb]; exact ⟨rfl, rfl⟩)

def frB (x : List UInt8) (kd : Int) (b : Bool) (c : K) : List Ent := [curE c, .blk [.ptr 0 0], .blk [.ptr 0 0], .blk [.str x], .blk [.bool b], .blk [.fn 34 [] [.ptr 4 0, .ptr 2 0, .ptr 3 0]], .blk [.int .i64 kd]]
theorem q1w {x : List UInt8} {kd : Int} (b : Bool) (c : K) : (frB x kd b c).all (Ent.bd 7) = true := by
 simp only [frB, List.all_cons, List.all_nil, qbi, Bool.true_and, Bool.and_true]; rfl
theorem qps {g : FuncId} {x : List UInt8} {kd : Int} {b : Bool} {c c' : K} {r : N × Bool} {L : List Ent} {Q : List Ent → VO → Prop} (h : VCalls Tryz.prog g [curE c, .blk [.ptr 0 0], .blk [.ptr 0 0], .blk [.str x], .blk [.bool b], .blk [.fn 34 [] [.ptr 4 0, .ptr 2 0, .ptr 3 0]], .blk [.int .i64 kd]] [.ptr 1 0, .ptr 6 0] fun H' o => H' = (frB x kd b c') ∧ o = .val (resB r)) (hq : Q (curE c' :: .blk [.ptr 0 0] :: .blk [.ptr 0 0] :: .blk [.str x] :: .blk [.bool b] :: .blk [.fn 34 [] [.ptr 4 0, .ptr 2 0, .ptr 3 0]] :: .blk [.int .i64 kd] :: L) (.val (resB r))) :
 VApp Tryz.prog (curE c :: .blk [.ptr 0 0] :: .blk [.ptr 0 0] :: .blk [.str x] :: .blk [.bool b] :: .blk [.fn 34 [] [.ptr 4 0, .ptr 2 0, .ptr 3 0]] :: .blk [.int .i64 kd] :: L) (.fn g [] [.ptr 1 0, .ptr 6 0]) [] Q :=
 qcd (first := []) (caps := [.ptr 1 0, .ptr 6 0]) (by
  simp only [List.nil_append]
  refine qdk (H0 := [curE c, .blk [.ptr 0 0], .blk [.ptr 0 0], .blk [.str x], .blk [.bool b], .blk [.fn 34 [] [.ptr 4 0, .ptr 2 0, .ptr 3 0]], .blk [.int .i64 kd]]) (L := L) h (q1w (x := x) (kd := kd) b c) rfl ?_
  rintro H1 o ⟨rfl, rfl⟩
  exact ⟨rfl, q1w _ _, qn3 _ _, hq⟩)
theorem qi6 {g : FuncId} {x : List UInt8} {kd : Int} {b b' a : Bool} {c c' : K} {L : List Ent} {Q : List Ent → VO → Prop} (h : VCalls Tryz.prog g [curE c, .blk [.ptr 0 0], .blk [.ptr 0 0], .blk [.str x], .blk [.bool b], .blk [.fn 34 [] [.ptr 4 0, .ptr 2 0, .ptr 3 0]], .blk [.int .i64 kd]] [.ptr 1 0, .ptr 5 0] fun H' o => H' = (frB x kd b' c') ∧ o = .val (.bool a)) (hq : Q (curE c' :: .blk [.ptr 0 0] :: .blk [.ptr 0 0] :: .blk [.str x] :: .blk [.bool b'] :: .blk [.fn 34 [] [.ptr 4 0, .ptr 2 0, .ptr 3 0]] :: .blk [.int .i64 kd] :: L) (.val (.bool a))) :
 VApp Tryz.prog (curE c :: .blk [.ptr 0 0] :: .blk [.ptr 0 0] :: .blk [.str x] :: .blk [.bool b] :: .blk [.fn 34 [] [.ptr 4 0, .ptr 2 0, .ptr 3 0]] :: .blk [.int .i64 kd] :: L) (.fn g [] [.ptr 1 0, .ptr 5 0]) [] Q :=
 qcd (first := []) (caps := [.ptr 1 0, .ptr 5 0]) (by
  simp only [List.nil_append]
  refine qdk (H0 := [curE c, .blk [.ptr 0 0], .blk [.ptr 0 0], .blk [.str x], .blk [.bool b], .blk [.fn 34 [] [.ptr 4 0, .ptr 2 0, .ptr 3 0]], .blk [.int .i64 kd]]) (L := L) h (q1w (x := x) (kd := kd) b c) rfl ?_
  rintro H1 o ⟨rfl, rfl⟩
  exact ⟨rfl, q1w _ _, rfl, hq⟩)
def RovB (one : K → R3) (more : MF) (g1 g2 : FuncId) (x : List UInt8) (kd : Int) (b : Bool) (c : K) (a0 : List N) : Prop :=
 VCalls Tryz.prog 15 (curE c :: .blk [.ptr 0 0] :: .blk [.ptr 0 0] :: .blk [.str x] :: .blk [.bool b] :: .blk [.fn 34 [] [.ptr 4 0, .ptr 2 0, .ptr 3 0]] :: .blk [.int .i64 kd] :: [.app 5 (encs a0)]) [.row 7 a0.length, .fn g1 [] [.ptr 1 0, .ptr 6 0], .fn g2 [] [.ptr 1 0, .ptr 5 0]] fun H' o =>
  ((rowS one more b c a0).2.2.1 = a0 → H' = curE (rowS one more b c a0).2.1 :: .blk [.ptr 0 0] :: .blk [.ptr 0 0] :: .blk [.str x] :: .blk [.bool (rowS one more b c a0).1] :: .blk [.fn 34 [] [.ptr 4 0, .ptr 2 0, .ptr 3 0]] :: .blk [.int .i64 kd] :: [.app 5 (encs a0)] ∧ o = .val (.tup [.row 7 a0.length, .bool (rowS one more b c a0).2.2.2])) ∧
  ((rowS one more b c a0).2.2.1 ≠ a0 → H' = curE (rowS one more b c a0).2.1 :: .blk [.ptr 0 0] :: .blk [.ptr 0 0] :: .blk [.str x] :: .blk [.bool (rowS one more b c a0).1] :: .blk [.fn 34 [] [.ptr 4 0, .ptr 2 0, .ptr 3 0]] :: .blk [.int .i64 kd] :: .dead :: [.app 5 (encs (rowS one more b c a0).2.2.1)] ∧ o = .val (.tup [.row 8 (rowS one more b c a0).2.2.1.length, .bool (rowS one more b c a0).2.2.2]))
def qwx (g1 g2 : FuncId) (x : List UInt8) (kd : Int) (a0 : List N) (s : Bool × Nat × K × List N) : AF × List Ent :=
 if s.2.2.2.length = a0.length then (⟨[(0, .row 7 a0.length), (1, .fn g1 [] [.ptr 1 0, .ptr 6 0]), (2, .fn g2 [] [.ptr 1 0, .ptr 5 0])], []⟩, curE s.2.2.1 :: .blk [.ptr 0 0] :: .blk [.ptr 0 0] :: .blk [.str x] :: .blk [.bool s.1] :: .blk [.fn 34 [] [.ptr 4 0, .ptr 2 0, .ptr 3 0]] :: .blk [.int .i64 kd] :: [.app 5 (encs a0)])
 else (⟨[(0, .row 8 s.2.2.2.length), (1, .fn g1 [] [.ptr 1 0, .ptr 6 0]), (2, .fn g2 [] [.ptr 1 0, .ptr 5 0])], []⟩, curE s.2.2.1 :: .blk [.ptr 0 0] :: .blk [.ptr 0 0] :: .blk [.str x] :: .blk [.bool s.1] :: .blk [.fn 34 [] [.ptr 4 0, .ptr 2 0, .ptr 3 0]] :: .blk [.int .i64 kd] :: .dead :: [.app 5 (encs s.2.2.2)])
theorem q59 {one : K → R3} {more : MF} {g1 g2 : FuncId} {x : List UInt8} {kd : Int} {n : Nat} (ho : Goes one) (hm : MonM more)
 (h1 : ∀ b c, c.good → rest c ≤ n → VCalls Tryz.prog g1 [curE c, .blk [.ptr 0 0], .blk [.ptr 0 0], .blk [.str x], .blk [.bool b], .blk [.fn 34 [] [.ptr 4 0, .ptr 2 0, .ptr 3 0]], .blk [.int .i64 kd]] [.ptr 1 0, .ptr 6 0] fun H' o => H' = (frB x kd b (one c).1) ∧ o = .val (resB (one c).2))
 (h2 : ∀ b c, c.good → rest c ≤ n → VCalls Tryz.prog g2 [curE c, .blk [.ptr 0 0], .blk [.ptr 0 0], .blk [.str x], .blk [.bool b], .blk [.fn 34 [] [.ptr 4 0, .ptr 2 0, .ptr 3 0]], .blk [.int .i64 kd]] [.ptr 1 0, .ptr 5 0] fun H' o => H' = (frB x kd (more b c).1 (more b c).2.1) ∧ o = .val (.bool (more b c).2.2))
 (b0 : Bool) (c0 : K) (a0 : List N) (hg : c0.good) (hr : rest c0 ≤ n) (hl : a0.length + rest c0 ≤ 1048578) : RovB one more g1 g2 x kd b0 c0 a0 := by
 unfold RovB
 obtain ⟨kk, hk1, hk2, hk0⟩ : ∃ k : Nat, ((rowS one more b0 c0 a0).2.2.1 = a0 → k = 8) ∧ ((rowS one more b0 c0 a0).2.2.1 ≠ a0 → k = 9) ∧ 8 ≤ k := by
  by_cases h : (rowS one more b0 c0 a0).2.2.1 = a0
  ·exact ⟨8, fun _ => rfl, fun g => absurd h g, Nat.le_refl _⟩
  ·exact ⟨9, fun g => absurd g h, fun _ => rfl, Nat.le_succ _⟩
 refine qd5 c0be kk (by simpa using hk0) (by simp) ?_
 generalize htg : rowS one more b0 c0 a0 = tg at hk1 hk2 ⊢
 unfold rowS at htg
 repeat' (first | refine vs_ ?_ | ((first | refine vr_ ?_ | (refine cs_ ?_ ?_ <;> intro hc) | refine cj_ ?_ | fail) <;> (try refine ev_ ?_)) | with_reducible exact ti_)
 refine qbm (S := Bool × Nat × K × List N) (fun s => s.2.2.1.good ∧ rest s.2.2.1 ≤ n ∧ rowF one more s.2.1 s.1 s.2.2.1 s.2.2.2 = tg ∧ rest s.2.2.1 < s.2.1 ∧ s.2.2.2.length + rest s.2.2.1 ≤ 1048578 ∧ a0.length ≤ s.2.2.2.length ∧ (s.2.2.2.length = a0.length → s.2.2.2 = a0)) (qwx g1 g2 x kd a0) (fun s => rest s.2.2.1) ?_ ?_
 ·refine q8 (b0, rest c0 + 1, c0, a0) [0, 1, 2, 3, 4, 5, 6, 7] ⟨hg, hr, htg, Nat.lt_succ_self _, hl, Nat.le_refl _, fun _ => rfl⟩ rfl (by simp) ?_ ?_ ?_
  all_goals simp only [qwx, if_true]
  all_goals (refine ev_ ?_; (try with_reducible exact ti_))
  all_goals first | exact qo _ _ | exact ⟨rfl, rfl⟩ | rfl | (rw [qo, qbb]; exact ⟨rfl, rfl⟩)
 ·rintro ⟨fl, fu, d, acc⟩ ⟨i1, i2, i3, i4, i5, i6, i7⟩
  simp only at i6 i7
  simp only at i1 i2 i3 i4 i5
  obtain ⟨fu, rfl⟩ : ∃ k, fu = k + 1 := ⟨fu - 1, by omega⟩
  rw [rowF] at i3
  have hcap : qdp (acc.length + 1) 64 := capN (by omega)
  have hmore := h2 fl d i1 i2
  have g1 := (hm fl d).1 i1
  have r1 := (hm fl d).2.1
  have hone := h1 (more fl d).1 (more fl d).2.1 g1 (by omega)
  have g2 := (ho.m (more fl d).2.1).1 g1
  have r2 := (ho.m (more fl d).2.1).2.1
  have hlt := ho.l (more fl d).2.1
  unfold qwx
  generalize more fl d = M at *
  obtain ⟨fl', d', ans⟩ := M
  simp only at hmore g1 r1 hone g2 r2 hlt i3
  generalize one d' = r at *
  obtain ⟨e, y, ok⟩ := r
  simp only at hone g2 r2 hlt i3
  have hneA : ¬ acc.length + 1 = a0.length := by omega
  have hlen : (acc ++ [y]).length = acc.length + 1 := by simp
  by_cases h0 : acc = a0
  ·have h0l : acc.length = a0.length := by rw [h0]
   simp only [if_pos h0l]
   cases ans with
   | false =>
     rw [if_neg (by simp)] at i3
     subst i3
     obtain rfl := hk1 h0
     repeat' (first | refine vs_ ?_ | ((first | refine vr_ ?_ | refine qi6 hmore ?_ | (refine cs_ ?_ ?_ <;> intro hc) | refine cj_ ?_ | fail) <;> (try refine ev_ ?_)) | with_reducible exact ti_)
     all_goals exact ⟨fun _ => by first | trivial | exact ⟨rfl, rfl⟩, fun g => absurd h0 g⟩
   | true =>
     rw [if_pos rfl] at i3
     cases ok with
     | false =>
       rw [if_neg (by simp)] at i3
       subst i3
       obtain rfl := hk1 h0
       repeat' (first | refine vs_ ?_ | ((first | refine vr_ ?_ | refine qi6 hmore ?_ | refine qps hone ?_ | (refine cs_ ?_ ?_ <;> intro hc) | refine cj_ ?_ | fail) <;> (try refine ev_ ?_)) | with_reducible exact ti_)
       all_goals exact ⟨fun _ => by first | trivial | exact ⟨rfl, rfl⟩, fun g => absurd h0 g⟩
     | true =>
       have hlt := hlt rfl
       rw [if_pos rfl] at i3
       subst h0
       repeat' (first | refine vs_ ?_ | ((first | refine vr_ ?_ | refine qi6 hmore ?_ | refine qps hone ?_ | (refine cs_ ?_ ?_ <;> intro hc) | refine cj_ ?_ | fail) <;> (try refine ev_ ?_)) | with_reducible exact ti_)
       refine q8 (fl', fu, e, acc ++ [y]) [0, 1, 2, 3, 4, 5, 6, 7, 9] ⟨⟨g2, by simp only; omega, i3, by simp only; omega, by simp only [hlen]; omega, by simp only [hlen]; omega, fun h => by simp only [hlen] at h; omega⟩, by simp only; omega⟩ rfl (by simp) ?_ ?_ ?_
       all_goals simp only [qwx, hlen, if_neg hneA, ← qe]
       all_goals (refine ev_ ?_; (try with_reducible exact ti_))
       all_goals first | (rw [qe]; exact qo _ _) | exact ⟨rfl, rfl⟩ | rfl | (rw [qe, qo, qbb]; exact ⟨rfl, rfl⟩)
  ·have h0l : ¬ acc.length = a0.length := fun h => h0 (i7 h)
   simp only [if_neg h0l]
   cases ans with
   | false =>
     rw [if_neg (by simp)] at i3
     subst i3
     obtain rfl := hk2 h0
     repeat' (first | refine vs_ ?_ | ((first | refine vr_ ?_ | refine qi6 hmore ?_ | (refine cs_ ?_ ?_ <;> intro hc) | refine cj_ ?_ | fail) <;> (try refine ev_ ?_)) | with_reducible exact ti_)
     all_goals exact ⟨fun g => absurd g h0, fun _ => by first | trivial | exact ⟨rfl, rfl⟩⟩
   | true =>
     rw [if_pos rfl] at i3
     cases ok with
     | false =>
       rw [if_neg (by simp)] at i3
       subst i3
       obtain rfl := hk2 h0
       repeat' (first | refine vs_ ?_ | ((first | refine vr_ ?_ | refine qi6 hmore ?_ | refine qps hone ?_ | (refine cs_ ?_ ?_ <;> intro hc) | refine cj_ ?_ | fail) <;> (try refine ev_ ?_)) | with_reducible exact ti_)
       all_goals exact ⟨fun g => absurd g h0, fun _ => by first | trivial | exact ⟨rfl, rfl⟩⟩
     | true =>
       have hlt := hlt rfl
       rw [if_pos rfl] at i3
       repeat' (first | refine vs_ ?_ | ((first | refine vr_ ?_ | refine qi6 hmore ?_ | refine qps hone ?_ | (refine cs_ ?_ ?_ <;> intro hc) | refine cj_ ?_ | fail) <;> (try refine ev_ ?_)) | with_reducible exact ti_)
       refine q8 (fl', fu, e, acc ++ [y]) [0, 1, 2, 3, 4, 5, 6, 7, 10] ⟨⟨g2, by simp only; omega, i3, by simp only; omega, by simp only [hlen]; omega, by simp only [hlen]; omega, fun h => by simp only [hlen] at h; omega⟩, by simp only; omega⟩ rfl (by simp) ?_ ?_ ?_
       all_goals simp only [qwx, hlen, if_neg hneA, ← qe]
       all_goals (refine ev_ ?_; (try with_reducible exact ti_))
       all_goals first | (rw [qe]; exact qo _ _) | exact ⟨rfl, rfl⟩ | rfl | (rw [qe, qo, qbb]; exact ⟨rfl, rfl⟩)

set_option maxRecDepth 4000

theorem qph (σ : Nat → Nat) (i o : Nat) : (Ent.blk [.ptr i o]).ren σ = .blk [.ptr (σ i) o] := rfl
theorem qr5 (σ : Nat → Nat) (x : List UInt8) : (Ent.blk [.str x]).ren σ = .blk [.str x] := rfl
theorem qk5 (σ : Nat → Nat) (b : Bool) : (Ent.blk [.bool b]).ren σ = .blk [.bool b] := rfl
theorem qcgg (σ : Nat → Nat) (n : Int) : (Ent.blk [.int .i64 n]).ren σ = .blk [.int .i64 n] := rfl
theorem qsq (σ : Nat → Nat) (l : List N) : (Ent.app 5 (encs l)).ren σ = .app 5 (encs l) := by rw [Ent.ren, qbb]
theorem e_fn (σ : Nat → Nat) (f : FuncId) (i j k : Nat) : (Ent.blk [.fn f [] [.ptr i 0, .ptr j 0, .ptr k 0]]).ren σ = .blk [.fn f [] [.ptr (σ i) 0, .ptr (σ j) 0, .ptr (σ k) 0]] := rfl
theorem qbd5 (c : K) (x : List UInt8) : VCalls Tryz.prog 14 [curE c] [.ptr 0 0, .str x] fun H' o => H' = [curE c, .blk [.ptr 0 0], .blk [.str x], .blk [.bool false]] ∧ o = .val (.fn 34 [] [.ptr 3 0, .ptr 1 0, .ptr 2 0]) := by
 refine qd5 c0w 4 (by simp) (by simp) ?_
 repeat' (first | refine vs_ ?_ | ((first | refine vr_ ?_ | (refine cs_ ?_ ?_ <;> intro hc) | refine cj_ ?_ | fail) <;> (try refine ev_ ?_)) | with_reducible exact ti_)
 all_goals exact ⟨rfl, rfl⟩
theorem qfh {c : K} {x : List UInt8} {L : List Ent} {Q : List Ent → VO → Prop} (hq : Q (curE c :: (L ++ [.blk [.ptr 0 0], .blk [.str x], .blk [.bool false]])) (.val (.fn 34 [] [.ptr (L.length + 3) 0, .ptr (L.length + 1) 0, .ptr (L.length + 2) 0]))) :
 VApp Tryz.prog (curE c :: L) (.fn 14 [] []) [.ptr 0 0, .str x] Q :=
 qcd (first := []) (caps := []) (by
  simp only [List.nil_append, List.append_nil]
  refine qc0 (H0 := [curE c]) (args0 := [.ptr 0 0, .str x]) [0] (qbd5 c x) (by simp) ?_ rfl rfl ?_
  ·(refine ev_ ?_; (try with_reducible exact ti_))
   omega
  rintro H1 o ⟨rfl, rfl⟩
  have h3 : ∀ k, L.length + 1 + k = L.length + (k + 1) := fun k => by omega
  simpa [qhf, qbw, sg', qph, qr5, qk5, AV.ren, AV.rens, VO.ren, qc9, Nat.add_assoc] using hq)
theorem qxv (x : List UInt8) (b : Bool) (c : K) (hg : c.good) : VCalls Tryz.prog 34 [curE c, .blk [.ptr 0 0], .blk [.str x], .blk [.bool b]] [.ptr 3 0, .ptr 1 0, .ptr 2 0] fun H' o => H' = [curE (qb5 x b c).2.1, .blk [.ptr 0 0], .blk [.str x], .blk [.bool (qb5 x b c).1]] ∧ o = .val (.bool (qb5 x b c).2.2) := by
 refine qp c0x 4 (by simp) (by simp) ?_
 unfold qb5
 cases b with
 | false =>
   repeat' (first | refine vs_ ?_ | ((first | refine vr_ ?_ | (refine cs_ ?_ ?_ <;> intro hc) | refine cj_ ?_ | fail) <;> (try refine ev_ ?_)) | with_reducible exact ti_)
   all_goals exact ⟨rfl, rfl⟩
 | true =>
   repeat' (first | refine vs_ ?_ | ((first | refine vr_ ?_ | refine qet hg.ok ?_ | (refine cs_ ?_ ?_ <;> intro hc) | refine cj_ ?_ | fail) <;> (try refine ev_ ?_)) | with_reducible exact ti_)
   all_goals exact ⟨rfl, rfl⟩
theorem qi8 {x : List UInt8} {b : Bool} {c : K} {B : Ent} {L : List Ent} {Q : List Ent → VO → Prop} (hg : c.good) (hq : Q (curE (qb5 x b c).2.1 :: B :: .blk [.ptr 0 0] :: .blk [.str x] :: .blk [.bool (qb5 x b c).1] :: L) (.val (.bool (qb5 x b c).2.2))) :
 VApp Tryz.prog (curE c :: B :: .blk [.ptr 0 0] :: .blk [.str x] :: .blk [.bool b] :: L) (.fn 34 [] [.ptr 4 0, .ptr 2 0, .ptr 3 0]) [] Q :=
 qcd (first := []) (caps := [.ptr 4 0, .ptr 2 0, .ptr 3 0]) (by
  simp only [List.nil_append]
  refine qc0 (H0 := [curE c, .blk [.ptr 0 0], .blk [.str x], .blk [.bool b]]) (args0 := [.ptr 3 0, .ptr 1 0, .ptr 2 0]) [0, 2, 3, 4] (qxv x b c hg) (by simp) ?_ rfl rfl ?_
  ·(refine ev_ ?_; (try with_reducible exact ti_))
   omega
  rintro H1 o ⟨rfl, rfl⟩
  simpa [qhf, qbw, sg', qph, qr5, qk5, AV.ren, AV.rens, VO.ren, qc9] using hq)
theorem qqv (c : K) (hg : c.good) : qce Tryz.prog 63 (curE c) (curE (qgh c).1) [.ptr 0 0] (resP (qgh c).2) := qi4 (qcy _) (qyd (rest c + 2)) c hg (by omega)
theorem qwz (c : K) (hg : c.good) : qce Tryz.prog 38 (curE c) (curE (qh3 c).1) [.ptr 0 0] (resP (qh3 c).2) := qtr (qcko (rest c + 2)) c hg (by omega)
theorem qb09 (c : K) : qce Tryz.prog 109 (curE c) (curE c) [.ptr 0 0] (.bool (begT c)) := by
 refine qp c0y 1 (by simp) (by simp) ?_
 repeat' (first | refine vs_ ?_ | ((first | refine vr_ ?_ | refine qb6 ?_ | refine a_Is ?_ | (refine cs_ ?_ ?_ <;> intro hc) | refine cj_ ?_ | fail) <;> (try refine ev_ ?_)) | with_reducible exact ti_)
 all_goals (unfold begT; simp_all)
theorem qcfl {c : K} {L : List Ent} {Q : List Ent → VO → Prop} (hq : Q (curE c :: L) (.val (.bool (begT c)))) : VApp Tryz.prog (curE c :: L) (.fn 109 [] []) [.ptr 0 0] Q := qb9 (qb09 c) (qbi _ _) (qbi _ _) rfl rfl fun _ => hq
theorem qb39 (c : K) (hg : c.good) : VCalls Tryz.prog 107 [curE c, .blk [.ptr 0 0]] [.ptr 1 0] fun H' o => H' = frA false (qde c).1 ∧ o = .val (resB (qde c).2) := by
 refine qp c0z 2 (by simp) (by simp) ?_
 unfold qde ofO frA
 repeat' (first | refine vs_ ?_ | ((first | refine vr_ ?_ | refine qcs (qqv c hg) rfl ?_ | (refine cs_ ?_ ?_ <;> intro hc) | refine cj_ ?_ | fail) <;> (try refine ev_ ?_)) | with_reducible exact ti_)
 all_goals exact ⟨rfl, rfl⟩
theorem qbr2 (c : K) : VCalls Tryz.prog 108 [curE c, .blk [.ptr 0 0]] [.ptr 1 0] fun H' o => H' = frA false c ∧ o = .val (.bool (begT c)) := by
 refine qp c0ba 2 (by simp) (by simp) ?_
 unfold frA
 repeat' (first | refine vs_ ?_ | ((first | refine vr_ ?_ | refine qcfl ?_ | (refine cs_ ?_ ?_ <;> intro hc) | refine cj_ ?_ | fail) <;> (try refine ev_ ?_)) | with_reducible exact ti_)
 all_goals exact ⟨rfl, rfl⟩
theorem qbe3 (c : K) (hg : c.good) : VCalls Tryz.prog 62 [curE c, .blk [.ptr 0 0]] [.ptr 1 0] fun H' o => H' = frA false (qde c).1 ∧ o = .val (resB (qde c).2) := by
 refine qp c0bb 2 (by simp) (by simp) ?_
 unfold qde ofO frA
 repeat' (first | refine vs_ ?_ | ((first | refine vr_ ?_ | refine qcs (qqv c hg) rfl ?_ | (refine cs_ ?_ ?_ <;> intro hc) | refine cj_ ?_ | fail) <;> (try refine ev_ ?_)) | with_reducible exact ti_)
 all_goals exact ⟨rfl, rfl⟩
theorem qbg1 (c : K) : VCalls Tryz.prog 64 [curE c, .blk [.ptr 0 0]] [.ptr 1 0] fun H' o => H' = frA false c ∧ o = .val (.bool (qd7 c)) := by
 refine qp c0bc 2 (by simp) (by simp) ?_
 unfold qd7 frA
 repeat' (first | refine vs_ ?_ | ((first | refine vr_ ?_ | refine qb6 ?_ | (refine cs_ ?_ ?_ <;> intro hc) | refine cj_ ?_ | fail) <;> (try refine ev_ ?_)) | with_reducible exact ti_)
 all_goals exact ⟨rfl, rfl⟩
theorem qbjp (c : K) (hg : c.good) : RowA qde (qfr begT) 107 108 false c := qyn goes_atom (monA _) (fun b c g _ => qb39 c g) (fun b c g _ => qbr2 c) false c hg (Nat.le_refl _)
theorem q9y (c : K) (hg : c.good) : RowA qde (qfr qd7) 62 64 false c := qyn goes_atom (monA _) (fun b c g _ => qbe3 c g) (fun b c g _ => qbg1 c) false c hg (Nat.le_refl _)
section
variable {one : K → R3} {more : MF} {g1 g2 : FuncId} {b : Bool} {c : K}
theorem qy7 (h : RowA one more g1 g2 b c) (h0 : (rowS one more b c []).2.2.1 = []) {L : List Ent} {Q : List Ent → VO → Prop} (hq : Q (curE (rowS one more b c []).2.1 :: .blk [.ptr 0 0] :: L) (.val (.tup [.nils, .bool (rowS one more b c []).2.2.2]))) :
 VApp Tryz.prog (curE c :: .blk [.ptr 0 0] :: L) (.fn 15 [] []) [.nils, .fn g1 [] [.ptr 1 0], .fn g2 [] [.ptr 1 0]] Q :=
 qcd (first := []) (caps := []) (by
  simp only [List.nil_append, List.append_nil]
  refine qdk (H0 := [curE c, .blk [.ptr 0 0]]) (L := L) h (qly c) rfl ?_
  rintro H1 o ⟨rfl, rfl⟩
  rw [h0]
  exact ⟨rfl, qly _, rfl, hq⟩)
theorem qzg (h : RowA one more g1 g2 b c) (h0 : (rowS one more b c []).2.2.1 ≠ []) {L : List Ent} {Q : List Ent → VO → Prop} (hq : Q (curE (rowS one more b c []).2.1 :: .blk [.ptr 0 0] :: (L ++ [.app 5 (encs (rowS one more b c []).2.2.1)])) (.val (.tup [.row (L.length + 2) (rowS one more b c []).2.2.1.length, .bool (rowS one more b c []).2.2.2]))) :
 VApp Tryz.prog (curE c :: .blk [.ptr 0 0] :: L) (.fn 15 [] []) [.nils, .fn g1 [] [.ptr 1 0], .fn g2 [] [.ptr 1 0]] Q :=
 qcd (first := []) (caps := []) (by
  simp only [List.nil_append, List.append_nil]
  refine qc0 (H0 := [curE c, .blk [.ptr 0 0]]) (args0 := [.nils, .fn g1 [] [.ptr 1 0], .fn g2 [] [.ptr 1 0]]) [0, 1] h (by simp) ?_ rfl rfl ?_
  ·(refine ev_ ?_; (try with_reducible exact ti_))
   omega
  rintro H1 o ⟨rfl, rfl⟩
  rw [qbd (q9 h0), qbc (q9 h0), qx]
  simpa [qhf, qbw, sg', qph, qsq, AV.ren, AV.rens, VO.ren, qc9] using hq)
end
theorem qvs (t : T) (l : List N) : AV.agg [.int .i64 34, .int .i64 t.pos, .int .i64 0, .str t.text, .sl 5 (encs l)] = enc (conN t l) := by simp only [conN, enc]
theorem qu5 (t : T) : AV.agg [.int .i64 34, .int .i64 t.pos, .int .i64 0, .str t.text, .sl 5 []] = enc (conN t []) := qvs t []
theorem qci7 (c : K) (hg : c.good) : qce Tryz.prog 67 (curE c) (curE (conK c).1) [.ptr 0 0] (resB (conK c).2) := by
 have g1 : (qn c 2).1.good := (qbf c 2).1 hg
 have hR := qbjp (qn c 2).1 g1
 have h0 := @qy7 _ _ _ _ _ _ hR
 have h1 := @qzg _ _ _ _ _ _ hR
 clear hR
 refine qp c0bd 1 (by simp) (by simp) ?_
 unfold conK
 generalize rowS qde (qfr begT) false (qn c 2).1 [] = r at *
 by_cases hk : (qn c 2).2 = true
 ·rw [if_pos hk]
  by_cases hl : r.2.2.1 = []
  ·repeat' (first | refine vs_ ?_ | ((first | refine vrr_ ?_ | fail) <;> (try simp only [hk, go_sem, ↓reduceIte])) | ((first | (refine cs_ ?_ ?_ <;> intro hc) | refine cj_ ?_ | fail | refine qdi hg.ok ?_ | refine h0 hl ?_) <;> (try refine ev_ ?_)) | with_reducible exact ti_)
   all_goals first | (rw [hl, qu5]; done) | (rw [hl, qu5]; rfl) | (rw [hl, qu5]; exact ⟨rfl, rfl⟩)
  ·repeat' (first | refine vs_ ?_ | ((first | refine vrr_ ?_ | fail) <;> (try simp only [hk, go_sem, ↓reduceIte])) | ((first | (refine cs_ ?_ ?_ <;> intro hc) | refine cj_ ?_ | fail | refine qdi hg.ok ?_ | refine h1 hl ?_) <;> (try refine ev_ ?_)) | with_reducible exact ti_)
   all_goals first | (rw [qvs]; done) | (rw [qvs]; rfl) | (rw [qvs]; exact ⟨rfl, rfl⟩)
 ·rw [if_neg hk]
  repeat' (first | refine vs_ ?_ | ((first | refine vr_ ?_ | fail) <;> (try simp only [hk, go_sem, ↓reduceIte])) | ((first | (refine cs_ ?_ ?_ <;> intro hc) | refine cj_ ?_ | fail | refine qdi hg.ok ?_) <;> (try refine ev_ ?_)) | with_reducible exact ti_)
  all_goals first | (rw [qds]; done) | (rw [qds]; rfl) | (rw [qds]; exact ⟨rfl, rfl⟩)
set_option maxRecDepth 4000

theorem qck9 {c : K} {L : List Ent} {Q : List Ent → VO → Prop} (hg : c.good) (hq : Q (curE (conK c).1 :: L) (.val (resB (conK c).2))) : VApp Tryz.prog (curE c :: L) (.fn 67 [] []) [.ptr 0 0] Q := ql2 (qci7 c hg) rfl hq
theorem q26 (x : List UInt8) (b : Bool) (c : K) (hg : c.good) : VCalls Tryz.prog 66 [curE c, .blk [.ptr 0 0], .blk [.ptr 0 0], .blk [.str x], .blk [.bool b]] [.ptr 1 0] fun H' o => H' = frD x b (conK c).1 ∧ o = .val (resB (conK c).2) := by
 refine qp c0u 5 (by simp) (by simp) ?_
 unfold frD
 repeat' (first | refine vs_ ?_ | ((first | refine vr_ ?_ | refine qck9 hg ?_ | (refine cs_ ?_ ?_ <;> intro hc) | refine cj_ ?_ | fail) <;> (try refine ev_ ?_)) | with_reducible exact ti_)
 all_goals exact ⟨rfl, rfl⟩
theorem qt6 (x : List UInt8) (b : Bool) (c : K) (hg : c.good) : VCalls Tryz.prog 34 [curE c, .blk [.ptr 0 0], .blk [.ptr 0 0], .blk [.str x], .blk [.bool b]] [.ptr 4 0, .ptr 2 0, .ptr 3 0] fun H' o => H' = frD x (qb5 x b c).1 (qb5 x b c).2.1 ∧ o = .val (.bool (qb5 x b c).2.2) := by
 refine qc0 (H0 := [curE c, .blk [.ptr 0 0], .blk [.str x], .blk [.bool b]]) (args0 := [.ptr 3 0, .ptr 1 0, .ptr 2 0]) [0, 2, 3, 4] (qxv x b c hg) (by simp) ?_ rfl rfl ?_
 ·(refine ev_ ?_; (try with_reducible exact ti_))
 rintro H1 o ⟨rfl, rfl⟩
 simp [frD, qhf, qbw, sg', qph, qr5, qk5, AV.ren, AV.rens, VO.ren, qc9]
theorem q8j (c : K) (hg : c.good) : RowD conK (qb5 [124]) 66 34 [124] false c :=
 q6q goes_con (monF _) (fun b c g _ => q26 _ b c g) (fun b c g _ => qt6 _ b c g) false c hg (Nat.le_refl _)
theorem q81 (c : K) (a0 : List N) (hg : c.good) (hl : a0.length + rest c ≤ 1048578) : RovD conK (qb5 [124]) 66 34 [124] false c a0 :=
 q74 goes_con (monF _) (fun b c g _ => q26 _ b c g) (fun b c g _ => qt6 _ b c g) false c a0 hg (Nat.le_refl _) hl
section
variable {one : K → R3} {more : MF} {g : FuncId} {x : List UInt8} {b : Bool} {c : K} {e2 e3 e4 : Ent} {Q : List Ent → VO → Prop}
theorem q7k (h : RowD one more g 34 x b c) (h0 : (rowS one more b c []).2.2.1 = []) (hq : Q [curE (rowS one more b c []).2.1, .blk [.ptr 0 0], e2, e3, e4, .blk [.ptr 0 0], .blk [.str x], .blk [.bool (rowS one more b c []).1]] (.val (.tup [.nils, .bool (rowS one more b c []).2.2.2]))) :
 VApp Tryz.prog [curE c, .blk [.ptr 0 0], e2, e3, e4, .blk [.ptr 0 0], .blk [.str x], .blk [.bool b]] (.fn 15 [] []) [.nils, .fn g [] [.ptr 1 0], .fn 34 [] [.ptr 7 0, .ptr 5 0, .ptr 6 0]] Q :=
 qcd (first := []) (caps := []) (by
  simp only [List.nil_append, List.append_nil]
  refine qc0 (H0 := [curE c, .blk [.ptr 0 0], .blk [.ptr 0 0], .blk [.str x], .blk [.bool b]]) (args0 := [.nils, .fn g [] [.ptr 1 0], .fn 34 [] [.ptr 4 0, .ptr 2 0, .ptr 3 0]]) [0, 1, 5, 6, 7] h (by simp) ?_ rfl rfl ?_
  ·(refine ev_ ?_; (try with_reducible exact ti_))
  rintro H1 o ⟨rfl, rfl⟩
  rw [h0]
  simpa [encs, qt, qr, qhf, qbw, sg', qph, qr5, qk5, AV.ren, AV.rens, VO.ren, qc9] using hq)
theorem q8t (h : RowD one more g 34 x b c) (h0 : (rowS one more b c []).2.2.1 ≠ []) (hq : Q [curE (rowS one more b c []).2.1, .blk [.ptr 0 0], e2, e3, e4, .blk [.ptr 0 0], .blk [.str x], .blk [.bool (rowS one more b c []).1], .app 5 (encs (rowS one more b c []).2.2.1)] (.val (.tup [.row 8 (rowS one more b c []).2.2.1.length, .bool (rowS one more b c []).2.2.2]))) :
 VApp Tryz.prog [curE c, .blk [.ptr 0 0], e2, e3, e4, .blk [.ptr 0 0], .blk [.str x], .blk [.bool b]] (.fn 15 [] []) [.nils, .fn g [] [.ptr 1 0], .fn 34 [] [.ptr 7 0, .ptr 5 0, .ptr 6 0]] Q :=
 qcd (first := []) (caps := []) (by
  simp only [List.nil_append, List.append_nil]
  refine qc0 (H0 := [curE c, .blk [.ptr 0 0], .blk [.ptr 0 0], .blk [.str x], .blk [.bool b]]) (args0 := [.nils, .fn g [] [.ptr 1 0], .fn 34 [] [.ptr 4 0, .ptr 2 0, .ptr 3 0]]) [0, 1, 5, 6, 7] h (by simp) ?_ rfl rfl ?_
  ·(refine ev_ ?_; (try with_reducible exact ti_))
  rintro H1 o ⟨rfl, rfl⟩
  rw [qbd (q9 h0), qbc (q9 h0), qx]
  simpa [qhf, qbw, sg', qph, qr5, qk5, qsq, AV.ren, AV.rens, VO.ren, qc9] using hq)
variable {a0 : List N}
theorem q8b (h : RovD one more g 34 x b c a0) (h0 : (rowS one more b c a0).2.2.1 = a0) (hq : Q [curE (rowS one more b c a0).2.1, .blk [.ptr 0 0], e2, e3, e4, .app 5 (encs a0), .blk [.ptr 0 0], .blk [.str x], .blk [.bool (rowS one more b c a0).1]] (.val (.tup [.row 5 a0.length, .bool (rowS one more b c a0).2.2.2]))) :
 VApp Tryz.prog [curE c, .blk [.ptr 0 0], e2, e3, e4, .app 5 (encs a0), .blk [.ptr 0 0], .blk [.str x], .blk [.bool b]] (.fn 15 [] []) [.row 5 a0.length, .fn g [] [.ptr 1 0], .fn 34 [] [.ptr 8 0, .ptr 6 0, .ptr 7 0]] Q :=
 qcd (first := []) (caps := []) (by
  simp only [List.nil_append, List.append_nil]
  refine qc0 (H0 := [curE c, .blk [.ptr 0 0], .blk [.ptr 0 0], .blk [.str x], .blk [.bool b], .app 5 (encs a0)]) (args0 := [.row 5 a0.length, .fn g [] [.ptr 1 0], .fn 34 [] [.ptr 4 0, .ptr 2 0, .ptr 3 0]]) [0, 1, 6, 7, 8, 5] h (by simp) ?_ rfl rfl ?_
  ·(refine ev_ ?_; (try with_reducible exact ti_))
   all_goals (rw [qbb, qo]; exact ⟨rfl, rfl⟩)
  intro H1 o hh
  obtain ⟨rfl, rfl⟩ := hh.1 h0
  simpa [qhf, qbw, sg', qph, qr5, qk5, qsq, AV.ren, AV.rens, VO.ren, qc9] using hq)
theorem q8x (h : RovD one more g 34 x b c a0) (h0 : (rowS one more b c a0).2.2.1 ≠ a0) (hq : Q [curE (rowS one more b c a0).2.1, .blk [.ptr 0 0], e2, e3, e4, .dead, .blk [.ptr 0 0], .blk [.str x], .blk [.bool (rowS one more b c a0).1], .app 5 (encs (rowS one more b c a0).2.2.1)] (.val (.tup [.row 9 (rowS one more b c a0).2.2.1.length, .bool (rowS one more b c a0).2.2.2]))) :
 VApp Tryz.prog [curE c, .blk [.ptr 0 0], e2, e3, e4, .app 5 (encs a0), .blk [.ptr 0 0], .blk [.str x], .blk [.bool b]] (.fn 15 [] []) [.row 5 a0.length, .fn g [] [.ptr 1 0], .fn 34 [] [.ptr 8 0, .ptr 6 0, .ptr 7 0]] Q :=
 qcd (first := []) (caps := []) (by
  simp only [List.nil_append, List.append_nil]
  refine qc0 (H0 := [curE c, .blk [.ptr 0 0], .blk [.ptr 0 0], .blk [.str x], .blk [.bool b], .app 5 (encs a0)]) (args0 := [.row 5 a0.length, .fn g [] [.ptr 1 0], .fn 34 [] [.ptr 4 0, .ptr 2 0, .ptr 3 0]]) [0, 1, 6, 7, 8, 5] h (by simp) ?_ rfl rfl ?_
  ·(refine ev_ ?_; (try with_reducible exact ti_))
   all_goals (rw [qbb, qo]; exact ⟨rfl, rfl⟩)
  intro H1 o hh
  obtain ⟨rfl, rfl⟩ := hh.2 h0
  have hd : ∀ σ : Nat → Nat, Ent.dead.ren σ = .dead := fun σ => rfl
  simpa [qhf, qbw, sg', qph, qr5, qk5, qsq, hd, AV.ren, AV.rens, VO.ren, qc9] using hq)
end
theorem qll (p : Int) (t : T) (v l : List N) : AV.agg [.int .i64 33, .int .i64 p, .int .i64 v.length, .str t.text, .sl 5 (encs l)] = enc (qrn p t v l) := by simp only [qrn, enc]
theorem q83 (p : Int) (t : T) (l : List N) : AV.agg [.int .i64 33, .int .i64 p, .int .i64 0, .str t.text, .sl 5 (encs l)] = enc (qrn p t [] l) := qll p t [] l
theorem q4q (p : Int) (t : T) : AV.agg [.int .i64 33, .int .i64 p, .int .i64 0, .str t.text, .sl 5 []] = enc (qrn p t [] []) := qll p t [] []
theorem qbv8 (p : Int) (c : K) (hg : c.good) : qce Tryz.prog 36 (curE c) (curE (qmk p c).1) [.ptr 0 0, posZ p] (resB (qmk p c).2) := by
 have g1 : (qn c 2).1.good := (qbf c 2).1 hg
 have hR := q9y (qn c 2).1 g1
 have h0 := @qy7 _ _ _ _ _ _ hR
 have h1 := @qzg _ _ _ _ _ _ hR
 have g2 := (qgy goes_atom (monA qd7) false (qn c 2).1 []).1 g1
 have hlen := qbij goes_atom (monA qd7) false (qn c 2).1 []
 have hle := (qgy goes_atom (monA qd7) false (qn c 2).1 []).2.1
 have h9 := g1.rest
 clear hR
 refine qp c0v 1 (by simp) (by simp [posZ]) ?_
 unfold qmk q45 posZ
 by_cases hk : (qn c 2).2 = true
 ·rw [if_pos hk]
  generalize rowS qde (qfr qd7) false (qn c 2).1 [] = r at *
  obtain ⟨fl, d, v, ok⟩ := r
  simp only at h0 h1 g2 hlen hle ⊢
  simp only [List.length_nil] at hlen
  have hle2 := (qd d [61]).2.1
  have hcap : qdp (v.length + 1) 64 := capN (by unfold rest at hlen; omega)
  have hvl : v.length ≤ maxLen := by unfold maxLen; unfold rest at hlen; omega
  have g3 : (qi d [61]).1.good := (qd _ _).1 g2
  have hR := q8j (qi d [61]).1 g3
  have hRv := q81 (qi d [61]).1 v g3 (by unfold rest at *; omega)
  unfold qzy
  by_cases hw : (qi d [61]).2 = true
  ·rw [if_pos hw]
   by_cases hl : v = []
   ·subst hl
    clear hRv
    have i0 := fun e2 e3 e4 Q => @q7k conK (qb5 [124]) 66 [124] false (qi d [61]).1 e2 e3 e4 Q hR
    have i1 := fun e2 e3 e4 Q => @q8t conK (qb5 [124]) 66 [124] false (qi d [61]).1 e2 e3 e4 Q hR
    clear hR
    generalize rowS conK (qb5 [124]) false (qi d [61]).1 [] = r2 at *
    by_cases hq : r2.2.2.1 = []
    ·repeat' (first | refine vs_ ?_ | ((first | refine vrr_ ?_ | fail) <;> (try simp only [hk, hw, go_sem, ↓reduceIte])) | ((first | (refine cs_ ?_ ?_ <;> intro hc) | refine cj_ ?_ | fail | refine qdi hg.ok ?_ | refine h0 rfl ?_ | refine qch g2.ok ?_ | refine qfh ?_ | refine i0 _ _ _ _ hq ?_) <;> (try refine ev_ ?_)) | with_reducible exact ti_)
     all_goals (try rw [hq, q4q])
     all_goals (try exact ⟨rfl, rfl⟩)
    ·repeat' (first | refine vs_ ?_ | ((first | refine vrr_ ?_ | fail) <;> (try simp only [hk, hw, go_sem, ↓reduceIte])) | ((first | (refine cs_ ?_ ?_ <;> intro hc) | refine cj_ ?_ | fail | refine qdi hg.ok ?_ | refine h0 rfl ?_ | refine qch g2.ok ?_ | refine qfh ?_ | refine i1 _ _ _ _ hq ?_) <;> (try refine ev_ ?_)) | with_reducible exact ti_)
     all_goals (try rw [q83])
     all_goals (try exact ⟨rfl, rfl⟩)
   ·clear hR
    have i0 := fun e2 e3 e4 Q => @q8b conK (qb5 [124]) 66 [124] false (qi d [61]).1 e2 e3 e4 Q v hRv
    have i1 := fun e2 e3 e4 Q => @q8x conK (qb5 [124]) 66 [124] false (qi d [61]).1 e2 e3 e4 Q v hRv
    clear hRv
    generalize rowS conK (qb5 [124]) false (qi d [61]).1 v = r2 at *
    by_cases hq : r2.2.2.1 = v
    ·repeat' (first | refine vs_ ?_ | ((first | refine vrr_ ?_ | fail) <;> (try simp only [hk, hw, go_sem, ↓reduceIte])) | ((first | (refine cs_ ?_ ?_ <;> intro hc) | refine cj_ ?_ | fail | refine qdi hg.ok ?_ | refine h1 hl ?_ | refine qch g2.ok ?_ | refine qfh ?_ | refine i0 _ _ _ _ hq ?_) <;> (try refine ev_ ?_)) | with_reducible exact ti_)
     all_goals (try rw [hq, qll])
     all_goals (try exact ⟨rfl, rfl⟩)
    ·repeat' (first | refine vs_ ?_ | ((first | refine vrr_ ?_ | fail) <;> (try simp only [hk, hw, go_sem, ↓reduceIte])) | ((first | (refine cs_ ?_ ?_ <;> intro hc) | refine cj_ ?_ | fail | refine qdi hg.ok ?_ | refine h1 hl ?_ | refine qch g2.ok ?_ | refine qfh ?_ | refine i1 _ _ _ _ hq ?_) <;> (try refine ev_ ?_)) | with_reducible exact ti_)
     all_goals (try rw [qll])
     all_goals (try exact ⟨rfl, rfl⟩)
  ·rw [if_neg hw]
   by_cases hl : v = []
   ·repeat' (first | refine vs_ ?_ | ((first | refine vrr_ ?_ | fail) <;> (try simp only [hk, hw, go_sem, ↓reduceIte])) | ((first | (refine cs_ ?_ ?_ <;> intro hc) | refine cj_ ?_ | fail | refine qdi hg.ok ?_ | refine h0 hl ?_ | refine qch g2.ok ?_) <;> (try refine ev_ ?_)) | with_reducible exact ti_)
    all_goals (try rw [qjr])
    all_goals (try exact ⟨rfl, rfl⟩)
   ·repeat' (first | refine vs_ ?_ | ((first | refine vrr_ ?_ | fail) <;> (try simp only [hk, hw, go_sem, ↓reduceIte])) | ((first | (refine cs_ ?_ ?_ <;> intro hc) | refine cj_ ?_ | fail | refine qdi hg.ok ?_ | refine h1 hl ?_ | refine qch g2.ok ?_) <;> (try refine ev_ ?_)) | with_reducible exact ti_)
    all_goals (try rw [qjr])
    all_goals (try exact ⟨rfl, rfl⟩)
 ·rw [if_neg hk]
  repeat' (first | refine vs_ ?_ | ((first | refine vr_ ?_ | fail) <;> (try simp only [hk, go_sem, ↓reduceIte])) | ((first | (refine cs_ ?_ ?_ <;> intro hc) | refine cj_ ?_ | fail | refine qdi hg.ok ?_) <;> (try refine ev_ ?_)) | with_reducible exact ti_)
  all_goals (try rw [qjr])
  all_goals (try exact ⟨rfl, rfl⟩)
set_option maxRecDepth 4000

theorem q87 (kd : Int) (c : K) (hg : c.good) : qce Tryz.prog 114 (curE c) (curE (qbn kd c).1) [.ptr 0 0, .int .i64 kd] (resB (qbn kd c).2) := by
 have hb := qwz c hg
 refine qp c0q 1 (by simp) (by simp) ?_
 unfold qbn ofO
 generalize qh3 c = r at *
 obtain ⟨d, o⟩ := r
 cases o with
 | none =>
   repeat' (first | refine vs_ ?_ | ((first | refine vr_ ?_ | fail) <;> (try simp (disch := first | omega | (simp only [List.length_set, List.length_append, List.length_cons, List.length_nil]; done) | (simp only [List.length_set, List.length_append, List.length_cons, List.length_nil]; omega)) only [Option.isSome_none, Option.getD_none, go_sem, ↓reduceIte])) | ((first | (refine cs_ ?_ ?_ <;> intro hc) | refine cj_ ?_ | fail | refine qcs hb rfl ?_) <;> (try refine ev_ ?_)) | with_reducible exact ti_)
   all_goals first | (rw [qds]; done) | (rw [qds]; rfl) | (rw [qds]; exact ⟨rfl, rfl⟩) | rfl | (simp; done)
 | some n =>
   obtain ⟨k, p, m, t, l⟩ := n
   by_cases hk : k = kd
   ·rw [if_neg (by simp [N.kind, hk])]
    repeat' (first | refine vs_ ?_ | ((first | refine vr_ ?_ | fail) <;> (try simp (disch := first | omega | (simp only [List.length_set, List.length_append, List.length_cons, List.length_nil]; done) | (simp only [List.length_set, List.length_append, List.length_cons, List.length_nil]; omega)) only [Option.isSome_some, Option.getD_some, go_sem, ↓reduceIte])) | ((first | (refine cs_ ?_ ?_ <;> intro hc) | refine cj_ ?_ | fail | refine qcs hb rfl ?_ | refine qg7 ?_) <;> (try refine ev_ ?_)) | with_reducible exact ti_)
    all_goals first | (exfalso; simp_all [N.kind]; done) | exact ⟨rfl, rfl⟩
   ·rw [if_pos (by simp [N.kind, hk])]
    repeat' (first | refine vs_ ?_ | ((first | refine vr_ ?_ | fail) <;> (try simp (disch := first | omega | (simp only [List.length_set, List.length_append, List.length_cons, List.length_nil]; done) | (simp only [List.length_set, List.length_append, List.length_cons, List.length_nil]; omega)) only [Option.isSome_some, Option.getD_some, go_sem, ↓reduceIte])) | ((first | (refine cs_ ?_ ?_ <;> intro hc) | refine cj_ ?_ | fail | refine qcs hb rfl ?_ | refine qg7 ?_) <;> (try refine ev_ ?_)) | with_reducible exact ti_)
    all_goals first | (exfalso; simp_all [N.kind]; done) | exact ⟨rfl, rfl⟩
theorem qbk7 {kd : Int} {c : K} {L : List Ent} {Q : List Ent → VO → Prop} (hg : c.good) (hq : Q (curE (qbn kd c).1 :: L) (.val (resB (qbn kd c).2))) : VApp Tryz.prog (curE c :: L) (.fn 114 [] []) [.ptr 0 0, .int .i64 kd] Q := ql2 (q87 kd c hg) rfl hq
theorem qbje (x : List UInt8) (kd : Int) (b : Bool) (c : K) (hg : c.good) : VCalls Tryz.prog 113 [curE c, .blk [.ptr 0 0], .blk [.ptr 0 0], .blk [.str x], .blk [.bool b], .blk [.fn 34 [] [.ptr 4 0, .ptr 2 0, .ptr 3 0]], .blk [.int .i64 kd]] [.ptr 1 0, .ptr 6 0] fun H' o => H' = frB x kd b (qbn kd c).1 ∧ o = .val (resB (qbn kd c).2) := by
 refine qp c0r 7 (by simp) (by simp) ?_
 unfold frB
 repeat' (first | refine vs_ ?_ | ((first | refine vr_ ?_ | refine qbk7 hg ?_ | (refine cs_ ?_ ?_ <;> intro hc) | refine cj_ ?_ | fail) <;> (try refine ev_ ?_)) | with_reducible exact ti_)
 all_goals exact ⟨rfl, rfl⟩
theorem qbhs (kd : Int) (b : Bool) (c : K) (hg : c.good) : VCalls Tryz.prog 115 [curE c, .blk [.ptr 0 0], .blk [.ptr 0 0], .blk [.str [59]], .blk [.bool b], .blk [.fn 34 [] [.ptr 4 0, .ptr 2 0, .ptr 3 0]], .blk [.int .i64 kd]] [.ptr 1 0, .ptr 5 0] fun H' o => H' = frB [59] kd (qgu b c).1 (qgu b c).2.1 ∧ o = .val (.bool (qgu b c).2.2) := by
 refine qp c0s 7 (by simp) (by simp) ?_
 unfold frB qgu
 by_cases hi : isK c [125] = true
 ·rw [if_pos hi]
  repeat' (first | refine vs_ ?_ | ((first | refine vr_ ?_ | fail) <;> (try simp only [hi, go_sem, ↓reduceIte])) | ((first | (refine cs_ ?_ ?_ <;> intro hc) | refine cj_ ?_ | fail | refine a_Is ?_ | refine qi8 hg ?_) <;> (try refine ev_ ?_)) | with_reducible exact ti_)
  all_goals first | exact ⟨rfl, rfl⟩ | (exfalso; simp_all; done) | (simp_all; done)
 ·rw [if_neg hi]
  have hi2 : isK c [125] = false := by simpa using hi
  by_cases ha : (qb5 [59] b c).2.2 = true
  ·repeat' (first | refine vs_ ?_ | ((first | refine vr_ ?_ | fail) <;> (try simp only [hi2, ha, go_sem, ↓reduceIte])) | ((first | (refine cs_ ?_ ?_ <;> intro hc) | refine cj_ ?_ | fail | refine a_Is ?_ | refine qi8 hg ?_) <;> (try refine ev_ ?_)) | with_reducible exact ti_)
   all_goals first | exact ⟨rfl, rfl⟩ | (exfalso; simp_all; done) | (simp_all; done)
  ·have ha2 : (qb5 [59] b c).2.2 = false := by simpa using ha
   repeat' (first | refine vs_ ?_ | ((first | refine vr_ ?_ | fail) <;> (try simp only [hi2, ha2, go_sem, ↓reduceIte])) | ((first | (refine cs_ ?_ ?_ <;> intro hc) | refine cj_ ?_ | fail | refine a_Is ?_ | refine qi8 hg ?_) <;> (try refine ev_ ?_)) | with_reducible exact ti_)
   all_goals first | exact ⟨rfl, rfl⟩ | (exfalso; simp_all; done) | (simp_all; done)
theorem q8h (kd : Int) (c : K) (a0 : List N) (hg : c.good) (hl : a0.length + rest c ≤ 1048578) : RovB (qbn kd) qgu 113 115 [59] kd false c a0 :=
 q59 (qeg kd) monB (fun b c g _ => qbje _ kd b c g) (fun b c g _ => qbhs kd b c g) false c a0 hg (Nat.le_refl _) hl
section
variable {one : K → R3} {more : MF} {g1 g2 : FuncId} {x : List UInt8} {kd : Int} {b : Bool} {c : K} {a0 : List N} {Q : List Ent → VO → Prop}
theorem q9v (h : RovB one more g1 g2 x kd b c a0) (h0 : (rowS one more b c a0).2.2.1 = a0) (hq : Q [curE (rowS one more b c a0).2.1, .app 5 (encs a0), .blk [.ptr 0 0], .blk [.int .i64 kd], .blk [.ptr 0 0], .blk [.str x], .blk [.bool (rowS one more b c a0).1], .blk [.fn 34 [] [.ptr 6 0, .ptr 4 0, .ptr 5 0]]] (.val (.tup [.row 1 a0.length, .bool (rowS one more b c a0).2.2.2]))) :
 VApp Tryz.prog [curE c, .app 5 (encs a0), .blk [.ptr 0 0], .blk [.int .i64 kd], .blk [.ptr 0 0], .blk [.str x], .blk [.bool b], .blk [.fn 34 [] [.ptr 6 0, .ptr 4 0, .ptr 5 0]]] (.fn 15 [] []) [.row 1 a0.length, .fn g1 [] [.ptr 2 0, .ptr 3 0], .fn g2 [] [.ptr 2 0, .ptr 7 0]] Q :=
 qcd (first := []) (caps := []) (by
  simp only [List.nil_append, List.append_nil]
  refine qc0 (H0 := [curE c, .blk [.ptr 0 0], .blk [.ptr 0 0], .blk [.str x], .blk [.bool b], .blk [.fn 34 [] [.ptr 4 0, .ptr 2 0, .ptr 3 0]], .blk [.int .i64 kd], .app 5 (encs a0)]) (args0 := [.row 7 a0.length, .fn g1 [] [.ptr 1 0, .ptr 6 0], .fn g2 [] [.ptr 1 0, .ptr 5 0]]) [0, 2, 4, 5, 6, 7, 3, 1] h (by simp) ?_ rfl rfl ?_
  ·(refine ev_ ?_; (try with_reducible exact ti_))
   all_goals (rw [qbb, qo]; exact ⟨rfl, rfl⟩)
  intro H1 o hh
  obtain ⟨rfl, rfl⟩ := hh.1 h0
  simpa [qhf, qbw, sg', qph, qr5, qk5, qcgg, qsq, e_fn, AV.ren, AV.rens, VO.ren, qc9] using hq)
theorem q8s (h : RovB one more g1 g2 x kd b c a0) (h0 : (rowS one more b c a0).2.2.1 ≠ a0) (hq : Q [curE (rowS one more b c a0).2.1, .dead, .blk [.ptr 0 0], .blk [.int .i64 kd], .blk [.ptr 0 0], .blk [.str x], .blk [.bool (rowS one more b c a0).1], .blk [.fn 34 [] [.ptr 6 0, .ptr 4 0, .ptr 5 0]], .app 5 (encs (rowS one more b c a0).2.2.1)] (.val (.tup [.row 8 (rowS one more b c a0).2.2.1.length, .bool (rowS one more b c a0).2.2.2]))) :
 VApp Tryz.prog [curE c, .app 5 (encs a0), .blk [.ptr 0 0], .blk [.int .i64 kd], .blk [.ptr 0 0], .blk [.str x], .blk [.bool b], .blk [.fn 34 [] [.ptr 6 0, .ptr 4 0, .ptr 5 0]]] (.fn 15 [] []) [.row 1 a0.length, .fn g1 [] [.ptr 2 0, .ptr 3 0], .fn g2 [] [.ptr 2 0, .ptr 7 0]] Q :=
 qcd (first := []) (caps := []) (by
  simp only [List.nil_append, List.append_nil]
  refine qc0 (H0 := [curE c, .blk [.ptr 0 0], .blk [.ptr 0 0], .blk [.str x], .blk [.bool b], .blk [.fn 34 [] [.ptr 4 0, .ptr 2 0, .ptr 3 0]], .blk [.int .i64 kd], .app 5 (encs a0)]) (args0 := [.row 7 a0.length, .fn g1 [] [.ptr 1 0, .ptr 6 0], .fn g2 [] [.ptr 1 0, .ptr 5 0]]) [0, 2, 4, 5, 6, 7, 3, 1] h (by simp) ?_ rfl rfl ?_
  ·(refine ev_ ?_; (try with_reducible exact ti_))
   all_goals (rw [qbb, qo]; exact ⟨rfl, rfl⟩)
  intro H1 o hh
  obtain ⟨rfl, rfl⟩ := hh.2 h0
  have hd : ∀ σ : Nat → Nat, Ent.dead.ren σ = .dead := fun σ => rfl
  simpa [qhf, qbw, sg', qph, qr5, qk5, qcgg, qsq, e_fn, hd, AV.ren, AV.rens, VO.ren, qc9] using hq)
end
theorem q2g {kd : Int} : ∀ (f : Nat) (b : Bool) (c : K) (acc : List N), rest c < f → (rowF (qbn kd) qgu f b c acc).2.2.1 ≠ acc → (rowF (qbn kd) qgu f b c acc).2.2.1 ≠ []
 | 0, _, _, _, h, _ => absurd h (by omega)
 | f + 1, b, c, acc, hf, h => by
   rw [rowF] at h ⊢
   have h3 := (monB b c).2.1
   split at h
   ·rename_i h1
    rw [if_pos h1]
    split at h
    ·rename_i h2
     rw [if_pos h2]
     have h4 := (qeg kd).l _ h2
     by_cases hq : (rowF (qbn kd) qgu f (qgu b c).1 (qbn kd (qgu b c).2.1).1 (acc ++ [(qbn kd (qgu b c).2.1).2.1])).2.2.1 = acc ++ [(qbn kd (qgu b c).2.1).2.1]
     ·rw [hq]; simp
     ·exact q2g f _ _ _ (by omega) hq
    ·exact absurd rfl h
   ·exact absurd rfl h
def qlm (kd : Int) (c : K) (out : List N) : Prop :=
 VCalls Tryz.prog 70 [curE c, .app 5 (encs out)] [.ptr 0 0, .row 1 out.length, .int .i64 kd] fun H' o =>
  ((qdq kd c out).2.1 = out → H' = [curE (qdq kd c out).1, .app 5 (encs out)] ∧ o = .val (.tup [.row 1 out.length, .bool (qdq kd c out).2.2])) ∧
  ((qdq kd c out).2.1 ≠ out → H' = [curE (qdq kd c out).1, .dead, .app 5 (encs (qdq kd c out).2.1)] ∧ o = .val (.tup [.row 2 (qdq kd c out).2.1.length, .bool (qdq kd c out).2.2]))
theorem q8r (kd : Int) (c : K) (out : List N) (hg : c.good) (hl : out.length + rest c ≤ 1048578) : qlm kd c out := by
 unfold qlm
 obtain ⟨kk, hk1, hk2, hk0⟩ : ∃ k : Nat, ((qdq kd c out).2.1 = out → k = 2) ∧ ((qdq kd c out).2.1 ≠ out → k = 3) ∧ 2 ≤ k := by
  by_cases h : (qdq kd c out).2.1 = out
  ·exact ⟨2, fun _ => rfl, fun g => absurd h g, Nat.le_refl _⟩
  ·exact ⟨3, fun g => absurd g h, fun _ => rfl, Nat.le_succ _⟩
 refine qd5 c0t kk (by simpa using hk0) (by simp) ?_
 have g1 : (qi c [119, 104, 101, 114, 101]).1.good := (qd c _).1 hg
 have g2 : (qi (qi c [119, 104, 101, 114, 101]).1 [123]).1.good := (qd _ _).1 g1
 have r1 := (qd c [119, 104, 101, 114, 101]).2.1
 have r2 := (qd (qi c [119, 104, 101, 114, 101]).1 [123]).2.1
 unfold qdq at *
 by_cases h1 : (qi c [119, 104, 101, 114, 101]).2 = true
 ·simp only [if_pos h1] at hk1 hk2 ⊢
  by_cases h2 : (qi (qi c [119, 104, 101, 114, 101]).1 [123]).2 = true
  ·simp only [if_pos h2] at hk1 hk2 ⊢
   have hR := q8h kd (qi (qi c [119, 104, 101, 114, 101]).1 [123]).1 out g2 (by omega)
   have i0 := fun Q => @q9v _ _ _ _ _ _ _ _ _ Q hR
   have i1 := fun Q => @q8s _ _ _ _ _ _ _ _ _ Q hR
   have hln0 : (rowS (qbn kd) qgu false (qi (qi c [119, 104, 101, 114, 101]).1 [123]).1 out).2.2.1 ≠ out → (rowS (qbn kd) qgu false (qi (qi c [119, 104, 101, 114, 101]).1 [123]).1 out).2.2.1 ≠ [] := q2g _ _ _ _ (Nat.lt_succ_self _)
   have g3 := (qgy (qeg kd) monB false (qi (qi c [119, 104, 101, 114, 101]).1 [123]).1 out).1 g2
   clear hR
   generalize rowS (qbn kd) qgu false (qi (qi c [119, 104, 101, 114, 101]).1 [123]).1 out = r at *
   obtain ⟨fl, d, l, ok⟩ := r
   simp only at i0 i1 g3 hk1 hk2 hln0 ⊢
   have hln : l ≠ out → l ≠ [] := hln0
   have hl2 : (qob (d, l, ok)).2.1 = l := by unfold qob; split <;> rfl
   rw [hl2] at hk1 hk2
   simp only [hl2]
   by_cases hq : l = out
   ·obtain rfl := hk1 hq
    cases ok with
    | false =>
      unfold qob
      repeat' (first | refine vs_ ?_ | ((first | refine vrr_ ?_ | fail) <;> (try simp only [h1, h2, go_sem, ↓reduceIte])) | ((first | (refine cs_ ?_ ?_ <;> intro hc) | refine cj_ ?_ | fail | refine qch hg.ok ?_ | refine qch g1.ok ?_ | refine qfh ?_ | refine i0 _ hq ?_) <;> (try refine ev_ ?_)) | with_reducible exact ti_)
      all_goals first | exact ⟨fun _ => by first | trivial | exact ⟨rfl, rfl⟩, fun g => absurd hq g⟩ | (exfalso; clear i0 i1; simp_all; done)
    | true =>
      unfold qob
      repeat' (first | refine vs_ ?_ | ((first | refine vrr_ ?_ | fail) <;> (try simp only [h1, h2, go_sem, ↓reduceIte])) | ((first | (refine cs_ ?_ ?_ <;> intro hc) | refine cj_ ?_ | fail | refine qch hg.ok ?_ | refine qch g1.ok ?_ | refine qfh ?_ | refine i0 _ hq ?_ | refine qch g3.ok ?_) <;> (try refine ev_ ?_)) | with_reducible exact ti_)
      all_goals first | exact ⟨fun _ => by first | trivial | exact ⟨rfl, rfl⟩, fun g => absurd hq g⟩ | (exfalso; clear i0 i1; simp_all; done)
   ·obtain rfl := hk2 hq
    have hne : l ≠ [] := hln hq
    unfold k0t
    generalize h9 : qbmp = R5
    repeat' (first | refine vs_ ?_ | ((first | refine vrr_ ?_ | fail) <;> (try simp only [h1, h2, go_sem, ↓reduceIte])) | ((first | (refine cs_ ?_ ?_ <;> intro hc) | refine cj_ ?_ | fail | refine qch hg.ok ?_ | refine qch g1.ok ?_ | refine qfh ?_ | refine i1 _ hq ?_) <;> (try refine ev_ ?_)) | with_reducible exact ti_)
    all_goals first | (exfalso; clear i0 i1 h9; simp_all; done) | skip
    refine qb7e (af' := ⟨[(1, .row 2 l.length), (3, .ptr 3 0), (9, .bool ok)], []⟩) (H' := [curE d, .dead, .app 5 (encs l), .blk [.ptr 0 0]]) ?_ (qbkt [0, 1, 8, 2] rfl (by simp) ?_ ?_ ?_)
    rotate_left
    all_goals (try (refine ev_ ?_; (try with_reducible exact ti_)))
    all_goals (try (rw [qo, qbb]; exact ⟨rfl, rfl⟩))
    subst h9
    cases ok with
    | false =>
      unfold qob
      repeat' (first | refine vs_ ?_ | ((first | refine vrr_ ?_ | refine qch g3.ok ?_ | (refine cs_ ?_ ?_ <;> intro hc) | refine cj_ ?_ | fail) <;> (try refine ev_ ?_)) | with_reducible exact ti_)
      all_goals exact ⟨fun g => absurd g hq, fun _ => by first | trivial | exact ⟨rfl, rfl⟩⟩
    | true =>
      unfold qob
      repeat' (first | refine vs_ ?_ | ((first | refine vrr_ ?_ | refine qch g3.ok ?_ | (refine cs_ ?_ ?_ <;> intro hc) | refine cj_ ?_ | fail) <;> (try refine ev_ ?_)) | with_reducible exact ti_)
      all_goals exact ⟨fun g => absurd g hq, fun _ => by first | trivial | exact ⟨rfl, rfl⟩⟩
  ·simp only [if_neg h2] at hk1 hk2 ⊢
   obtain rfl := hk1 (by trivial)
   repeat' (first | refine vs_ ?_ | ((first | refine vrr_ ?_ | fail) <;> (try simp only [h1, h2, go_sem, ↓reduceIte])) | ((first | (refine cs_ ?_ ?_ <;> intro hc) | refine cj_ ?_ | fail | refine qch hg.ok ?_ | refine qch g1.ok ?_) <;> (try refine ev_ ?_)) | with_reducible exact ti_)
   all_goals first | exact ⟨rfl, rfl⟩ | exact ⟨fun _ => by first | trivial | exact ⟨rfl, rfl⟩, fun g => absurd rfl g⟩ | (exfalso; simp_all; done) | (simp_all; done)
 ·simp only [if_neg h1] at hk1 hk2 ⊢
  obtain rfl := hk1 (by trivial)
  repeat' (first | refine vs_ ?_ | ((first | refine vrr_ ?_ | fail) <;> (try simp only [h1, go_sem, ↓reduceIte])) | ((first | (refine cs_ ?_ ?_ <;> intro hc) | refine cj_ ?_ | fail | refine qch hg.ok ?_ | refine qch g1.ok ?_ | refine qfh ?_) <;> (try refine ev_ ?_)) | with_reducible exact ti_)
  all_goals first | exact ⟨rfl, rfl⟩ | exact ⟨fun _ => by first | trivial | exact ⟨rfl, rfl⟩, fun g => absurd rfl g⟩ | (exfalso; simp_all; done) | (simp_all; done)
set_option maxRecDepth 4000

section
variable {kd : Int} {c : K} {out : List N} {e1 e2 e3 e4 e5 : Ent} {Q : List Ent → VO → Prop}
theorem qbmv (h : qlm kd c out) (h0 : (qdq kd c out).2.1 = out) (hq : Q [curE (qdq kd c out).1, e1, e2, e3, e4, .app 5 (encs out)] (.val (.tup [.row 5 out.length, .bool (qdq kd c out).2.2]))) :
 VApp Tryz.prog [curE c, e1, e2, e3, e4, .app 5 (encs out)] (.fn 70 [] []) [.ptr 0 0, .row 5 out.length, .int .i64 kd] Q :=
 qcd (first := []) (caps := []) (by
  simp only [List.nil_append, List.append_nil]
  refine qc0 (H0 := [curE c, .app 5 (encs out)]) (args0 := [.ptr 0 0, .row 1 out.length, .int .i64 kd]) [0, 5] h (by simp) ?_ rfl rfl ?_
  ·(refine ev_ ?_; (try with_reducible exact ti_))
   all_goals (rw [qbb, qo]; exact ⟨rfl, rfl⟩)
  intro H1 o hh
  obtain ⟨rfl, rfl⟩ := hh.1 h0
  simpa [qhf, qbw, sg', qsq, AV.ren, AV.rens, VO.ren, qc9] using hq)
theorem qbmh (h : qlm kd c out) (h0 : (qdq kd c out).2.1 ≠ out) (hq : Q [curE (qdq kd c out).1, e1, e2, e3, e4, .dead, .app 5 (encs (qdq kd c out).2.1)] (.val (.tup [.row 6 (qdq kd c out).2.1.length, .bool (qdq kd c out).2.2]))) :
 VApp Tryz.prog [curE c, e1, e2, e3, e4, .app 5 (encs out)] (.fn 70 [] []) [.ptr 0 0, .row 5 out.length, .int .i64 kd] Q :=
 qcd (first := []) (caps := []) (by
  simp only [List.nil_append, List.append_nil]
  refine qc0 (H0 := [curE c, .app 5 (encs out)]) (args0 := [.ptr 0 0, .row 1 out.length, .int .i64 kd]) [0, 5] h (by simp) ?_ rfl rfl ?_
  ·(refine ev_ ?_; (try with_reducible exact ti_))
   all_goals (rw [qbb, qo]; exact ⟨rfl, rfl⟩)
  intro H1 o hh
  obtain ⟨rfl, rfl⟩ := hh.2 h0
  have hd : ∀ σ : Nat → Nat, Ent.dead.ren σ = .dead := fun σ => rfl
  simpa [qhf, qbw, sg', qsq, hd, AV.ren, AV.rens, VO.ren, qc9] using hq)
theorem qbme (h : qlm kd c out) (h0 : (qdq kd c out).2.1 = out) (hq : Q [curE (qdq kd c out).1, e1, e2, e3, e4, e5, .app 5 (encs out)] (.val (.tup [.row 6 out.length, .bool (qdq kd c out).2.2]))) :
 VApp Tryz.prog [curE c, e1, e2, e3, e4, e5, .app 5 (encs out)] (.fn 70 [] []) [.ptr 0 0, .row 6 out.length, .int .i64 kd] Q :=
 qcd (first := []) (caps := []) (by
  simp only [List.nil_append, List.append_nil]
  refine qc0 (H0 := [curE c, .app 5 (encs out)]) (args0 := [.ptr 0 0, .row 1 out.length, .int .i64 kd]) [0, 6] h (by simp) ?_ rfl rfl ?_
  ·(refine ev_ ?_; (try with_reducible exact ti_))
   all_goals (rw [qbb, qo]; exact ⟨rfl, rfl⟩)
  intro H1 o hh
  obtain ⟨rfl, rfl⟩ := hh.1 h0
  simpa [qhf, qbw, sg', qsq, AV.ren, AV.rens, VO.ren, qc9] using hq)
theorem qbmc (h : qlm kd c out) (h0 : (qdq kd c out).2.1 ≠ out) (hq : Q [curE (qdq kd c out).1, e1, e2, e3, e4, e5, .dead, .app 5 (encs (qdq kd c out).2.1)] (.val (.tup [.row 7 (qdq kd c out).2.1.length, .bool (qdq kd c out).2.2]))) :
 VApp Tryz.prog [curE c, e1, e2, e3, e4, e5, .app 5 (encs out)] (.fn 70 [] []) [.ptr 0 0, .row 6 out.length, .int .i64 kd] Q :=
 qcd (first := []) (caps := []) (by
  simp only [List.nil_append, List.append_nil]
  refine qc0 (H0 := [curE c, .app 5 (encs out)]) (args0 := [.ptr 0 0, .row 1 out.length, .int .i64 kd]) [0, 6] h (by simp) ?_ rfl rfl ?_
  ·(refine ev_ ?_; (try with_reducible exact ti_))
   all_goals (rw [qbb, qo]; exact ⟨rfl, rfl⟩)
  intro H1 o hh
  obtain ⟨rfl, rfl⟩ := hh.2 h0
  have hd : ∀ σ : Nat → Nat, Ent.dead.ren σ = .dead := fun σ => rfl
  simpa [qhf, qbw, sg', qsq, hd, AV.ren, AV.rens, VO.ren, qc9] using hq)
end
theorem qbl9 : ∀ l : List N, l.length ≤ szs l
 | [] => Nat.zero_le _
 | x :: r => by
   have := qbl9 r
   rw [szs, qki, List.length_cons]; omega
def qbd6 (k p : Int) : AV := .agg [.int .i64 k, .int .i64 p, .int .i64 0, .str [], .nils]
theorem qws (k p : Int) : AV.agg [.int .i64 k, .int .i64 p, .int .i64 0, .str [], .sl 5 []] = enc (q5t k p) := by simp only [q5t, enc, encs]
theorem qf4 (k p : Int) (t : T) (v l : List N) : AV.agg [.int .i64 k, .int .i64 p, .int .i64 v.length, .str t.text, .sl 5 (encs l)] = enc (qkn k p t v l) := by simp only [qkn, enc]
theorem qsm (k p : Int) (t : T) (v : List N) : AV.agg [.int .i64 k, .int .i64 p, .int .i64 v.length, .str t.text, .sl 5 []] = enc (qkn k p t v []) := qf4 k p t v []
theorem qg8 (k p : Int) (t : T) (l : List N) : AV.agg [.int .i64 k, .int .i64 p, .int .i64 0, .str t.text, .sl 5 (encs l)] = enc (qkn k p t [] l) := qf4 k p t [] l
theorem qq2 (k p : Int) (t : T) : AV.agg [.int .i64 k, .int .i64 p, .int .i64 0, .str t.text, .sl 5 []] = enc (qkn k p t [] []) := qf4 k p t [] []
set_option maxHeartbeats 2000000 in
theorem q8o (k p : Int) (c : K) (hg : c.good) : qce Tryz.prog 37 (curE c) (curE (ql1 k p c).1) [.ptr 0 0, qbd6 k p] (resB (ql1 k p c).2) := by
 have hP : qje (qb3 (rest c + 2)) c := qqn (qcy _) (qyd (rest c + 2)) c hg (by omega)
 have p0 := @qor (qb3 (rest c + 2)) c hP
 have p1 := @qt7 (qb3 (rest c + 2)) c hP
 have g1 : (qd4 c).1.good := (qgp c).1 hg
 have h9 := hg.rest
 have hpl := fun l => @q3q c l
 have hpz := fun l (h : (qd4 c).2 = some l) => Nat.le_trans (Nat.add_le_add_right (qbl9 l) _) (@qyh c l h)
 clear hP
 refine qp c0p 1 (by simp) (by simp [qbd6]) ?_
 unfold ql1 q4m qbd6
 unfold qd4 at *
 generalize qbj (qb3 (rest c + 2)) c = pr at *
 obtain ⟨d, o⟩ := pr
 simp only at p0 p1 g1 hpl hpz ⊢
 cases o with
 | none =>
   repeat' (first | refine vs_ ?_ | ((first | refine vrr_ ?_ | fail) <;> (try simp (disch := first | omega | (simp only [List.length_set, List.length_append, List.length_cons, List.length_nil]; done) | (simp only [List.length_set, List.length_append, List.length_cons, List.length_nil]; omega)) only [Option.isSome_none, Option.getD_none, go_sem, ↓reduceIte])) | ((first | (refine cs_ ?_ ?_ <;> intro hc) | refine cj_ ?_ | fail | refine p0 rfl ?_) <;> (try refine ev_ ?_)) | with_reducible exact ti_)
   all_goals (try rw [qws])
   all_goals first | exact ⟨rfl, rfl⟩ | rfl | (exfalso; clear p0 p1; simp_all; done)
 | some v =>
   have hvl := hpl v rfl
   have hvz := hpz v rfl
   have hvm : v.length ≤ maxLen := by unfold maxLen; unfold rest at hvl; omega
   have hcap : qdp (v.length + 1) 64 := capN (by unfold rest at hvl; omega)
   have hcap1 : qdp 1 64 := capN (by omega)
   have p0 : v = [] → _ := fun h => @p0 h
   have p1 : v ≠ [] → _ := fun h => @p1 v rfl h
   clear hpl hpz
   simp only [Option.getD_some, Option.isSome_some, if_true]
   have g2 : (qn d 2).1.good := (qbf d 2).1 g1
   have r2 := (qbf d 2).2.1
   by_cases hk : (qn d 2).2 = true
   ·rw [if_pos hk]
    have ha := qqv (qn d 2).1 g2
    have g3 := (qhw (qn d 2).1).1 g2
    have r3 := (qhw (qn d 2).1).2.1
    have r4 : (qgh (qn d 2).1).2.isSome = true → rest (qgh (qn d 2).1).1 < rest (qn d 2).1 := fun h => qea (qcy _) h
    unfold qz6 q4h
    generalize qgh (qn d 2).1 = a at *
    have hkl := qon (by decide) hk
    have hvl2 : v.length + 1 + rest a.1 ≤ 1048578 := by unfold rest at *; omega
    by_cases h35 : k = 35
    ·subst h35
     simp only [true_and, if_true]
     by_cases hv : (qq (qn d 2).1).kind = 1
     ·have hv1 := hv
      rw [if_neg (by simp [hv])]
      have hbs := q8r 32 a.1 (v ++ [a.2.getD N0]) g3 (by simp only [List.length_append, List.length_cons, List.length_nil]; unfold rest at *; omega)
      have a0 := fun e1 e2 e3 e4 Q => @qbmv 32 a.1 (v ++ [a.2.getD N0]) e1 e2 e3 e4 Q hbs
      have a1 := fun e1 e2 e3 e4 Q => @qbmh 32 a.1 (v ++ [a.2.getD N0]) e1 e2 e3 e4 Q hbs
      have b0 := fun e1 e2 e3 e4 e5 Q => @qbme 32 a.1 (v ++ [a.2.getD N0]) e1 e2 e3 e4 e5 Q hbs
      have b1 := fun e1 e2 e3 e4 e5 Q => @qbmc 32 a.1 (v ++ [a.2.getD N0]) e1 e2 e3 e4 e5 Q hbs
      clear hbs
      generalize qdq 32 a.1 (v ++ [a.2.getD N0]) = B at *
      obtain ⟨a, oa⟩ := a
      cases oa with
      | none =>
        simp only [Option.isSome_none, Bool.false_eq_true, if_false, Option.getD_none] at ha ⊢
        clear a0 a1 b0 b1
        by_cases h0 : v = []
        ·repeat' (first | refine vs_ ?_ | ((first | refine vrr_ ?_ | fail) <;> (try simp (disch := first | omega | (simp only [List.length_set, List.length_append, List.length_cons, List.length_nil]; done) | (simp only [List.length_set, List.length_append, List.length_cons, List.length_nil]; omega)) only [hk, Option.isSome_some, hv1, ne_eq, not_true_eq_false, decide_false, Option.isSome_none, Option.getD_none, go_sem, ↓reduceIte])) | ((first | (refine cs_ ?_ ?_ <;> intro hc) | refine cj_ ?_ | fail | refine p0 h0 ?_ | refine qdi g1.ok ?_ | refine qb6 ?_ | refine qg7 ?_ | refine qcs ha rfl ?_) <;> (try refine ev_ ?_)) | with_reducible exact ti_)
         all_goals (try subst h0)
         all_goals (try rw [qq2])
         all_goals first | exact ⟨rfl, rfl⟩ | rfl | (exfalso; clear p0 p1; simp_all; done)
        ·repeat' (first | refine vs_ ?_ | ((first | refine vrr_ ?_ | fail) <;> (try simp (disch := first | omega | (simp only [List.length_set, List.length_append, List.length_cons, List.length_nil]; done) | (simp only [List.length_set, List.length_append, List.length_cons, List.length_nil]; omega)) only [hk, Option.isSome_some, hv1, ne_eq, not_true_eq_false, decide_false, Option.isSome_none, Option.getD_none, go_sem, ↓reduceIte])) | ((first | (refine cs_ ?_ ?_ <;> intro hc) | refine cj_ ?_ | fail | refine p1 h0 ?_ | refine qdi g1.ok ?_ | refine qb6 ?_ | refine qg7 ?_ | refine qcs ha rfl ?_) <;> (try refine ev_ ?_)) | with_reducible exact ti_)
         all_goals (try rw [qsm])
         all_goals first | exact ⟨rfl, rfl⟩ | rfl | (exfalso; clear p0 p1; simp_all; done)
      | some n =>
        simp only [Option.isSome_some, if_true, Option.getD_some] at ha a0 a1 b0 b1 ⊢
        by_cases h0 : v = []
        ·subst h0
         clear b0 b1 hcap
         simp only [List.nil_append, encs, List.length_cons, List.length_nil, Nat.zero_add] at a0 a1
         by_cases hq : B.2.1 = [n]
         ·repeat' (first | refine vs_ ?_ | ((first | refine vrr_ ?_ | fail) <;> (try simp only [hk, Option.isSome_some, hv1, ne_eq, not_true_eq_false, decide_false, go_sem, ↓reduceIte])) | ((first | (refine cs_ ?_ ?_ <;> intro hc) | refine cj_ ?_ | fail | refine p0 rfl ?_ | refine qdi g1.ok ?_ | refine qb6 ?_ | refine qg7 ?_ | refine qcs ha rfl ?_ | refine a0 _ _ _ _ _ hq ?_) <;> (try refine ev_ ?_)) | with_reducible exact ti_)
          all_goals (try rw [hq, ← qg8])
          all_goals first | exact ⟨rfl, rfl⟩ | rfl | (exfalso; clear p0 p1 a0 a1; simp_all; done)
         ·repeat' (first | refine vs_ ?_ | ((first | refine vrr_ ?_ | fail) <;> (try simp only [hk, Option.isSome_some, hv1, ne_eq, not_true_eq_false, decide_false, go_sem, ↓reduceIte])) | ((first | (refine cs_ ?_ ?_ <;> intro hc) | refine cj_ ?_ | fail | refine p0 rfl ?_ | refine qdi g1.ok ?_ | refine qb6 ?_ | refine qg7 ?_ | refine qcs ha rfl ?_ | refine a1 _ _ _ _ _ hq ?_) <;> (try refine ev_ ?_)) | with_reducible exact ti_)
          all_goals (try rw [qg8])
          all_goals first | exact ⟨rfl, rfl⟩ | rfl | (exfalso; clear p0 p1 a0 a1; simp_all; done)
        ·clear a0 a1 hcap1
         simp only [← qe, List.length_append, List.length_cons, List.length_nil, Nat.zero_add] at b0 b1
         by_cases hq : B.2.1 = v ++ [n]
         ·repeat' (first | refine vs_ ?_ | ((first | refine vrr_ ?_ | fail) <;> (try simp only [hk, Option.isSome_some, hv1, ne_eq, not_true_eq_false, decide_false, go_sem, ↓reduceIte])) | ((first | (refine cs_ ?_ ?_ <;> intro hc) | refine cj_ ?_ | fail | refine p1 h0 ?_ | refine qdi g1.ok ?_ | refine qb6 ?_ | refine qg7 ?_ | refine qcs ha rfl ?_ | refine b0 _ _ _ _ _ _ hq ?_) <;> (try refine ev_ ?_)) | with_reducible exact ti_)
          all_goals (try (rw [qe, qf4, hq]; exact ⟨qo _ _, rfl⟩))
          all_goals first | exact ⟨rfl, rfl⟩ | rfl | (exfalso; clear p0 p1 b0 b1; simp_all; done)
         ·repeat' (first | refine vs_ ?_ | ((first | refine vrr_ ?_ | fail) <;> (try simp only [hk, Option.isSome_some, hv1, ne_eq, not_true_eq_false, decide_false, go_sem, ↓reduceIte])) | ((first | (refine cs_ ?_ ?_ <;> intro hc) | refine cj_ ?_ | fail | refine p1 h0 ?_ | refine qdi g1.ok ?_ | refine qb6 ?_ | refine qg7 ?_ | refine qcs ha rfl ?_ | refine b1 _ _ _ _ _ _ hq ?_) <;> (try refine ev_ ?_)) | with_reducible exact ti_)
          all_goals (try rw [qf4])
          all_goals first | exact ⟨rfl, rfl⟩ | rfl | (exfalso; clear p0 p1 b0 b1; simp_all; done)
     ·rw [if_pos hv]
      clear ha
      by_cases h0 : v = []
      ·repeat' (first | refine vs_ ?_ | ((first | refine vrr_ ?_ | fail) <;> (try simp only [hk, hv, Option.isSome_some, go_sem, ↓reduceIte])) | ((first | (refine cs_ ?_ ?_ <;> intro hc) | refine cj_ ?_ | fail | refine p0 h0 ?_ | refine qdi g1.ok ?_ | refine qb6 ?_ | refine qg7 ?_) <;> (try refine ev_ ?_)) | with_reducible exact ti_)
       all_goals (try subst h0)
       all_goals (try rw [qq2])
       all_goals first | exact ⟨rfl, rfl⟩ | rfl | (exfalso; clear p0 p1; simp_all; done)
      ·repeat' (first | refine vs_ ?_ | ((first | refine vrr_ ?_ | fail) <;> (try simp only [hk, hv, Option.isSome_some, go_sem, ↓reduceIte])) | ((first | (refine cs_ ?_ ?_ <;> intro hc) | refine cj_ ?_ | fail | refine p1 h0 ?_ | refine qdi g1.ok ?_ | refine qb6 ?_ | refine qg7 ?_) <;> (try refine ev_ ?_)) | with_reducible exact ti_)
       all_goals (try rw [qsm])
       all_goals first | exact ⟨rfl, rfl⟩ | rfl | (exfalso; clear p0 p1; simp_all; done)
    ·simp only [if_neg h35, h35, false_and, if_false]
     have hbs := q8r 31 a.1 (v ++ [a.2.getD N0]) g3 (by simp only [List.length_append, List.length_cons, List.length_nil]; unfold rest at *; omega)
     have a0 := fun e1 e2 e3 e4 Q => @qbmv 31 a.1 (v ++ [a.2.getD N0]) e1 e2 e3 e4 Q hbs
     have a1 := fun e1 e2 e3 e4 Q => @qbmh 31 a.1 (v ++ [a.2.getD N0]) e1 e2 e3 e4 Q hbs
     have b0 := fun e1 e2 e3 e4 e5 Q => @qbme 31 a.1 (v ++ [a.2.getD N0]) e1 e2 e3 e4 e5 Q hbs
     have b1 := fun e1 e2 e3 e4 e5 Q => @qbmc 31 a.1 (v ++ [a.2.getD N0]) e1 e2 e3 e4 e5 Q hbs
     clear hbs
     generalize qdq 31 a.1 (v ++ [a.2.getD N0]) = B at *
     obtain ⟨a, oa⟩ := a
     cases oa with
     | none =>
       simp only [Option.isSome_none, Bool.false_eq_true, if_false, Option.getD_none] at ha ⊢
       clear a0 a1 b0 b1
       by_cases h0 : v = []
       ·repeat' (first | refine vs_ ?_ | ((first | refine vrr_ ?_ | fail) <;> (try simp (disch := first | omega | (simp only [List.length_set, List.length_append, List.length_cons, List.length_nil]; done) | (simp only [List.length_set, List.length_append, List.length_cons, List.length_nil]; omega)) only [hk, Option.isSome_some, h35, Option.isSome_none, Option.getD_none, go_sem, ↓reduceIte])) | ((first | (refine cs_ ?_ ?_ <;> intro hc) | refine cj_ ?_ | fail | refine p0 h0 ?_ | refine qdi g1.ok ?_ | refine qb6 ?_ | refine qg7 ?_ | refine qcs ha rfl ?_) <;> (try refine ev_ ?_)) | with_reducible exact ti_)
        all_goals (try subst h0)
        all_goals (try rw [qq2])
        all_goals first | exact ⟨rfl, rfl⟩ | rfl | (exfalso; clear p0 p1; simp_all; done)
       ·repeat' (first | refine vs_ ?_ | ((first | refine vrr_ ?_ | fail) <;> (try simp (disch := first | omega | (simp only [List.length_set, List.length_append, List.length_cons, List.length_nil]; done) | (simp only [List.length_set, List.length_append, List.length_cons, List.length_nil]; omega)) only [hk, Option.isSome_some, h35, Option.isSome_none, Option.getD_none, go_sem, ↓reduceIte])) | ((first | (refine cs_ ?_ ?_ <;> intro hc) | refine cj_ ?_ | fail | refine p1 h0 ?_ | refine qdi g1.ok ?_ | refine qb6 ?_ | refine qg7 ?_ | refine qcs ha rfl ?_) <;> (try refine ev_ ?_)) | with_reducible exact ti_)
        all_goals (try rw [qsm])
        all_goals first | exact ⟨rfl, rfl⟩ | rfl | (exfalso; clear p0 p1; simp_all; done)
     | some n =>
       simp only [Option.isSome_some, if_true, Option.getD_some] at ha a0 a1 b0 b1 ⊢
       by_cases h0 : v = []
       ·subst h0
        clear b0 b1 hcap
        simp only [List.nil_append, encs, List.length_cons, List.length_nil, Nat.zero_add] at a0 a1
        by_cases hq : B.2.1 = [n]
        ·repeat' (first | refine vs_ ?_ | ((first | refine vrr_ ?_ | fail) <;> (try simp only [hk, Option.isSome_some, h35, go_sem, ↓reduceIte])) | ((first | (refine cs_ ?_ ?_ <;> intro hc) | refine cj_ ?_ | fail | refine p0 rfl ?_ | refine qdi g1.ok ?_ | refine qb6 ?_ | refine qg7 ?_ | refine qcs ha rfl ?_ | refine a0 _ _ _ _ _ hq ?_) <;> (try refine ev_ ?_)) | with_reducible exact ti_)
         all_goals (try rw [hq, ← qg8])
         all_goals first | exact ⟨rfl, rfl⟩ | rfl | (exfalso; clear p0 p1 a0 a1; simp_all; done)
        ·repeat' (first | refine vs_ ?_ | ((first | refine vrr_ ?_ | fail) <;> (try simp only [hk, Option.isSome_some, h35, go_sem, ↓reduceIte])) | ((first | (refine cs_ ?_ ?_ <;> intro hc) | refine cj_ ?_ | fail | refine p0 rfl ?_ | refine qdi g1.ok ?_ | refine qb6 ?_ | refine qg7 ?_ | refine qcs ha rfl ?_ | refine a1 _ _ _ _ _ hq ?_) <;> (try refine ev_ ?_)) | with_reducible exact ti_)
         all_goals (try rw [qg8])
         all_goals first | exact ⟨rfl, rfl⟩ | rfl | (exfalso; clear p0 p1 a0 a1; simp_all; done)
       ·clear a0 a1 hcap1
        simp only [← qe, List.length_append, List.length_cons, List.length_nil, Nat.zero_add] at b0 b1
        by_cases hq : B.2.1 = v ++ [n]
        ·repeat' (first | refine vs_ ?_ | ((first | refine vrr_ ?_ | fail) <;> (try simp only [hk, Option.isSome_some, h35, go_sem, ↓reduceIte])) | ((first | (refine cs_ ?_ ?_ <;> intro hc) | refine cj_ ?_ | fail | refine p1 h0 ?_ | refine qdi g1.ok ?_ | refine qb6 ?_ | refine qg7 ?_ | refine qcs ha rfl ?_ | refine b0 _ _ _ _ _ _ hq ?_) <;> (try refine ev_ ?_)) | with_reducible exact ti_)
         all_goals (try (rw [qe, qf4, hq]; exact ⟨qo _ _, rfl⟩))
         all_goals first | exact ⟨rfl, rfl⟩ | rfl | (exfalso; clear p0 p1 b0 b1; simp_all; done)
        ·repeat' (first | refine vs_ ?_ | ((first | refine vrr_ ?_ | fail) <;> (try simp only [hk, Option.isSome_some, h35, go_sem, ↓reduceIte])) | ((first | (refine cs_ ?_ ?_ <;> intro hc) | refine cj_ ?_ | fail | refine p1 h0 ?_ | refine qdi g1.ok ?_ | refine qb6 ?_ | refine qg7 ?_ | refine qcs ha rfl ?_ | refine b1 _ _ _ _ _ _ hq ?_) <;> (try refine ev_ ?_)) | with_reducible exact ti_)
         all_goals (try rw [qf4])
         all_goals first | exact ⟨rfl, rfl⟩ | rfl | (exfalso; clear p0 p1 b0 b1; simp_all; done)
   ·rw [if_neg hk]
    by_cases h0 : v = []
    ·repeat' (first | refine vs_ ?_ | ((first | refine vrr_ ?_ | fail) <;> (try simp only [hk, Option.isSome_some, go_sem, ↓reduceIte])) | ((first | (refine cs_ ?_ ?_ <;> intro hc) | refine cj_ ?_ | fail | refine p0 h0 ?_ | refine qdi g1.ok ?_) <;> (try refine ev_ ?_)) | with_reducible exact ti_)
     all_goals (try rw [qws])
     all_goals first | exact ⟨rfl, rfl⟩ | rfl | (exfalso; clear p0 p1; simp_all; done)
    ·repeat' (first | refine vs_ ?_ | ((first | refine vrr_ ?_ | fail) <;> (try simp only [hk, Option.isSome_some, go_sem, ↓reduceIte])) | ((first | (refine cs_ ?_ ?_ <;> intro hc) | refine cj_ ?_ | fail | refine p1 h0 ?_ | refine qdi g1.ok ?_) <;> (try refine ev_ ?_)) | with_reducible exact ti_)
     all_goals (try rw [qws])
     all_goals first | exact ⟨rfl, rfl⟩ | rfl | (exfalso; clear p0 p1; simp_all; done)
set_option maxRecDepth 4000

theorem qbs0 (c : K) (hg : c.good) : qce Tryz.prog 17 (curE c) (curE (qdv c).1) [.ptr 0 0] (resB (qdv c).2) := by
 have g1 : (qf c qpi).1.good := (qk _ _).1 hg
 have g2 : (qf c qkc).1.good := (qk _ _).1 hg
 have g3 : (qf c qpn).1.good := (qk _ _).1 hg
 have h1 := qbv8 (qq c).pos _ g1
 have h2 := q8o 35 (qq c).pos _ g2
 have h3 := q8o 36 (qq c).pos _ g3
 have h4 := qwz c hg
 refine qp c0h 1 (by simp) (by simp) ?_
 unfold qdv
 unfold qpi qkc qpn posZ qbd6 at *
 by_cases t1 : (qf c [100, 97, 116, 97]).2 = true
 ·rw [if_pos t1]
  repeat' (first | refine vs_ ?_ | ((first | refine vrr_ ?_ | fail) <;> (try simp only [t1, go_sem, ↓reduceIte])) | ((first | (refine cs_ ?_ ?_ <;> intro hc) | refine cj_ ?_ | fail | refine qb6 ?_ | refine qet hg.ok ?_ | refine ql2 h1 rfl ?_) <;> (try refine ev_ ?_)) | with_reducible exact ti_)
 ·have t1f : (qf c [100, 97, 116, 97]).2 = false := by simpa using t1
  have e1 := qc2 t1f
  rw [if_neg t1]
  by_cases t2 : (qf c [99, 108, 97, 115, 115]).2 = true
  ·rw [if_pos t2]
   repeat' (first | refine vs_ ?_ | ((first | refine vrr_ ?_ | fail) <;> (try simp only [t1f, e1, t2, go_sem, ↓reduceIte])) | ((first | (refine cs_ ?_ ?_ <;> intro hc) | refine cj_ ?_ | fail | refine qb6 ?_ | refine qet hg.ok ?_ | refine ql2 h2 rfl ?_) <;> (try refine ev_ ?_)) | with_reducible exact ti_)
  ·have t2f : (qf c [99, 108, 97, 115, 115]).2 = false := by simpa using t2
   have e2 := qc2 t2f
   rw [if_neg t2]
   by_cases t3 : (qf c [105, 110, 115, 116, 97, 110, 99, 101]).2 = true
   ·rw [if_pos t3]
    repeat' (first | refine vs_ ?_ | ((first | refine vrr_ ?_ | fail) <;> (try simp only [t1f, e1, t2f, e2, t3, go_sem, ↓reduceIte])) | ((first | (refine cs_ ?_ ?_ <;> intro hc) | refine cj_ ?_ | fail | refine qb6 ?_ | refine qet hg.ok ?_ | refine ql2 h3 rfl ?_) <;> (try refine ev_ ?_)) | with_reducible exact ti_)
   ·have t3f : (qf c [105, 110, 115, 116, 97, 110, 99, 101]).2 = false := by simpa using t3
    have e3 := qc2 t3f
    rw [if_neg t3]
    unfold ofO
    repeat' (first | refine vs_ ?_ | ((first | refine vrr_ ?_ | fail) <;> (try simp only [t1f, e1, t2f, e2, t3f, e3, go_sem, ↓reduceIte])) | ((first | (refine cs_ ?_ ?_ <;> intro hc) | refine cj_ ?_ | fail | refine qb6 ?_ | refine qet hg.ok ?_ | refine qcs h4 rfl ?_) <;> (try refine ev_ ?_)) | with_reducible exact ti_)
theorem qbmj {c : K} {L : List Ent} {Q : List Ent → VO → Prop} (hg : c.good) (hq : Q (curE (qdv c).1 :: L) (.val (resB (qdv c).2))) : VApp Tryz.prog (curE c :: L) (.fn 17 [] []) [.ptr 0 0] Q := ql2 (qbs0 c hg) rfl hq
theorem qbhr (x : List UInt8) (b : Bool) (c : K) (hg : c.good) : VCalls Tryz.prog 16 [curE c, .blk [.ptr 0 0], .blk [.ptr 0 0], .blk [.str x], .blk [.bool b], .blk [.fn 34 [] [.ptr 4 0, .ptr 2 0, .ptr 3 0]]] [.ptr 1 0] fun H' o => H' = frP x b (qdv c).1 ∧ o = .val (resB (qdv c).2) := by
 refine qp c0i 6 (by simp) (by simp) ?_
 unfold frP
 repeat' (first | refine vs_ ?_ | ((first | refine vr_ ?_ | refine qbmj hg ?_ | (refine cs_ ?_ ?_ <;> intro hc) | refine cj_ ?_ | fail) <;> (try refine ev_ ?_)) | with_reducible exact ti_)
 all_goals exact ⟨rfl, rfl⟩
theorem qbgp (b : Bool) (c : K) (hg : c.good) : VCalls Tryz.prog 18 [curE c, .blk [.ptr 0 0], .blk [.ptr 0 0], .blk [.str [59]], .blk [.bool b], .blk [.fn 34 [] [.ptr 4 0, .ptr 2 0, .ptr 3 0]]] [.ptr 1 0, .ptr 5 0] fun H' o => H' = frP [59] (qh1 b c).1 (qh1 b c).2.1 ∧ o = .val (.bool (qh1 b c).2.2) := by
 refine qp c0j 6 (by simp) (by simp) ?_
 unfold frP qh1
 by_cases hi : (qq c).kind = 0
 ·rw [if_pos hi]
  repeat' (first | refine vs_ ?_ | ((first | refine vr_ ?_ | fail) <;> (try simp only [hi, ne_eq, not_true_eq_false, decide_false, go_sem, ↓reduceIte])) | ((first | (refine cs_ ?_ ?_ <;> intro hc) | refine cj_ ?_ | fail | refine qb6 ?_ | refine qi8 hg ?_) <;> (try refine ev_ ?_)) | with_reducible exact ti_)
  all_goals first | exact ⟨rfl, rfl⟩ | (exfalso; simp_all; done) | (simp_all; done)
 ·rw [if_neg hi]
  by_cases ha : (qb5 [59] b c).2.2 = true
  ·repeat' (first | refine vs_ ?_ | ((first | refine vr_ ?_ | fail) <;> (try simp only [hi, ha, ne_eq, not_false_eq_true, decide_true, go_sem, ↓reduceIte])) | ((first | (refine cs_ ?_ ?_ <;> intro hc) | refine cj_ ?_ | fail | refine qb6 ?_ | refine qi8 hg ?_) <;> (try refine ev_ ?_)) | with_reducible exact ti_)
   all_goals first | exact ⟨rfl, rfl⟩ | (exfalso; simp_all; done) | (simp_all; done)
  ·have ha2 : (qb5 [59] b c).2.2 = false := by simpa using ha
   repeat' (first | refine vs_ ?_ | ((first | refine vr_ ?_ | fail) <;> (try simp only [hi, ha2, ne_eq, not_false_eq_true, decide_true, go_sem, ↓reduceIte])) | ((first | (refine cs_ ?_ ?_ <;> intro hc) | refine cj_ ?_ | fail | refine qb6 ?_ | refine qi8 hg ?_) <;> (try refine ev_ ?_)) | with_reducible exact ti_)
   all_goals first | exact ⟨rfl, rfl⟩ | (exfalso; simp_all; done) | (simp_all; done)
theorem q70 (c : K) (hg : c.good) : RowP qdv qh1 16 18 [59] false c :=
 qba4 goes_decl monP (fun b c g _ => qbhr _ b c g) (fun b c g _ => qbgp b c g) false c hg (Nat.le_refl _)
section
variable {one : K → R3} {more : MF} {g1 g2 : FuncId} {x : List UInt8} {b : Bool} {c : K} {e2 : Ent} {Q : List Ent → VO → Prop}
theorem q8c (h : RowP one more g1 g2 x b c) (h0 : (rowS one more b c []).2.2.1 = []) (hq : Q [curE (rowS one more b c []).2.1, .blk [.ptr 0 0], e2, .blk [.ptr 0 0], .blk [.str x], .blk [.bool (rowS one more b c []).1], .blk [.fn 34 [] [.ptr 5 0, .ptr 3 0, .ptr 4 0]]] (.val (.tup [.nils, .bool (rowS one more b c []).2.2.2]))) :
 VApp Tryz.prog [curE c, .blk [.ptr 0 0], e2, .blk [.ptr 0 0], .blk [.str x], .blk [.bool b], .blk [.fn 34 [] [.ptr 5 0, .ptr 3 0, .ptr 4 0]]] (.fn 15 [] []) [.nils, .fn g1 [] [.ptr 1 0], .fn g2 [] [.ptr 1 0, .ptr 6 0]] Q :=
 qcd (first := []) (caps := []) (by
  simp only [List.nil_append, List.append_nil]
  refine qc0 (H0 := [curE c, .blk [.ptr 0 0], .blk [.ptr 0 0], .blk [.str x], .blk [.bool b], .blk [.fn 34 [] [.ptr 4 0, .ptr 2 0, .ptr 3 0]]]) (args0 := [.nils, .fn g1 [] [.ptr 1 0], .fn g2 [] [.ptr 1 0, .ptr 5 0]]) [0, 1, 3, 4, 5, 6] h (by simp) ?_ rfl rfl ?_
  ·(refine ev_ ?_; (try with_reducible exact ti_))
  rintro H1 o ⟨rfl, rfl⟩
  rw [h0]
  simpa [encs, qt, qr, qhf, qbw, sg', qph, qr5, qk5, e_fn, AV.ren, AV.rens, VO.ren, qc9] using hq)
theorem q9f (h : RowP one more g1 g2 x b c) (h0 : (rowS one more b c []).2.2.1 ≠ []) (hq : Q [curE (rowS one more b c []).2.1, .blk [.ptr 0 0], e2, .blk [.ptr 0 0], .blk [.str x], .blk [.bool (rowS one more b c []).1], .blk [.fn 34 [] [.ptr 5 0, .ptr 3 0, .ptr 4 0]], .app 5 (encs (rowS one more b c []).2.2.1)] (.val (.tup [.row 7 (rowS one more b c []).2.2.1.length, .bool (rowS one more b c []).2.2.2]))) :
 VApp Tryz.prog [curE c, .blk [.ptr 0 0], e2, .blk [.ptr 0 0], .blk [.str x], .blk [.bool b], .blk [.fn 34 [] [.ptr 5 0, .ptr 3 0, .ptr 4 0]]] (.fn 15 [] []) [.nils, .fn g1 [] [.ptr 1 0], .fn g2 [] [.ptr 1 0, .ptr 6 0]] Q :=
 qcd (first := []) (caps := []) (by
  simp only [List.nil_append, List.append_nil]
  refine qc0 (H0 := [curE c, .blk [.ptr 0 0], .blk [.ptr 0 0], .blk [.str x], .blk [.bool b], .blk [.fn 34 [] [.ptr 4 0, .ptr 2 0, .ptr 3 0]]]) (args0 := [.nils, .fn g1 [] [.ptr 1 0], .fn g2 [] [.ptr 1 0, .ptr 5 0]]) [0, 1, 3, 4, 5, 6] h (by simp) ?_ rfl rfl ?_
  ·(refine ev_ ?_; (try with_reducible exact ti_))
  rintro H1 o ⟨rfl, rfl⟩
  rw [qbd (q9 h0), qbc (q9 h0), qx]
  simpa [qhf, qbw, sg', qph, qr5, qk5, e_fn, qsq, AV.ren, AV.rens, VO.ren, qc9] using hq)
end
theorem qp8 (l : List N) : AV.agg [.int .i64 37, .int .i64 0, .int .i64 0, .str [], .sl 5 (encs l)] = enc (qpg l) := by simp only [qpg, enc]
theorem qsi : AV.agg [.int .i64 37, .int .i64 0, .int .i64 0, .str [], .sl 5 []] = enc (qpg []) := qp8 []
theorem qb1c (c : K) (hg : c.good) : qce Tryz.prog 13 (curE c) (curE (qoj c).1) [.ptr 0 0] (enc ((qoj c).2.getD N0)) := by
 have hR := q70 c hg
 have i0 := fun e2 Q => @q8c _ _ _ _ _ _ _ e2 Q hR
 have i1 := fun e2 Q => @q9f _ _ _ _ _ _ _ e2 Q hR
 clear hR
 refine qp c0k 1 (by simp) (by simp) ?_
 unfold qoj
 generalize rowS qdv qh1 false c [] = r at *
 by_cases hq : r.2.2.1 = []
 ·repeat' (first | refine vs_ ?_ | ((first | refine vrr_ ?_ | refine qfh ?_ | refine i0 _ _ hq ?_ | (refine cs_ ?_ ?_ <;> intro hc) | refine cj_ ?_ | fail) <;> (try refine ev_ ?_)) | with_reducible exact ti_)
  all_goals (rw [Option.getD_some, hq, ← qsi]; first | done | rfl | exact ⟨rfl, rfl⟩)
 ·repeat' (first | refine vs_ ?_ | ((first | refine vrr_ ?_ | refine qfh ?_ | refine i1 _ _ hq ?_ | (refine cs_ ?_ ?_ <;> intro hc) | refine cj_ ?_ | fail) <;> (try refine ev_ ?_)) | with_reducible exact ti_)
  all_goals (rw [Option.getD_some, ← qp8]; first | done | rfl | exact ⟨rfl, rfl⟩)
theorem qbe8 (c : K) (hg : c.good) : qce Tryz.prog 29 (curE c) (curE (decK c).1) [.ptr 0 0] (enc ((decK c).2.getD N0)) := by
 refine qp c0l 1 (by simp) (by simp) ?_
 unfold decK
 repeat' (first | refine vs_ ?_ | ((first | refine vr_ ?_ | refine qbmj hg ?_ | (refine cs_ ?_ ?_ <;> intro hc) | refine cj_ ?_ | fail) <;> (try refine ev_ ?_)) | with_reducible exact ti_)
 all_goals first | rfl | exact ⟨rfl, rfl⟩
theorem q28 {so : FuncId} {rd : K → K × Option N} {s : List UInt8} (hs : s.length ≤ 400000) (hrd : ∀ c : K, c.good → qce Tryz.prog so (curE c) (curE (rd c).1) [.ptr 0 0] (enc ((rd c).2.getD N0)))
 (hm : ∀ c, Mon c (rd c).1) (hsz : ∀ c, sz ((rd c).2.getD N0) ≤ 2 * rest c + 1) : qz Tryz.prog 12 [.str s, .fn so [] []] (resV (q5p rd s)) := by
 have g := qxf (qnt s).1
 have g2 : (rd (newK (lexV s).1)).1.good := (hm _).1 g
 have hsz' : sz ((rd (newK (lexV s).1)).2.getD N0) ≤ 1000000 := by
  have h1 := hsz (newK (lexV s).1)
  have h2 := qlj (lexV s).1
  have h3 := (qnt s).2
  have h4 : rest (newK (lexV s).1) = (qhg (lexV s).1).length := rfl
  omega
 have hdp := q4o hsz'
 refine qj c0m (by simp) (by simp only [go_sem]) (by simp only [go_sem]) fun hw => ?_
 repeat' (first | refine vs_ ?_ | ((first | refine vr_ ?_ | refine qa (qy4 s) fun _ => ?_ | refine qbgz (qbc2 _ (qnt s).1) (qbi _ _) (by simp only [go_sem]) ?_ | refine q23 1 (hrd _ g) (by rfl) (qbi _ _) (qbi _ _) (by rfl) (qo0 _ _) (by rfl) fun _ => ?_ | refine q23 1 (q3b _ g2.ok) (by rfl) (qbi _ _) (qbi _ _) (by rfl) (by rfl) (by rfl) fun _ => ?_ | refine qa (qu0 (q6i _) (by rw [hdp])) fun _ => ?_ | refine qb (qy4 s) ?_ | refine qb (qu0 (q6i _) (by rw [hdp])) ?_ | (refine cs_ ?_ ?_ <;> intro hc) | refine cj_ ?_ | fail) <;> (try refine ev_ ?_)) | with_reducible exact ti_)
 all_goals (try rw [qds])
 all_goals unfold q5p qko
 all_goals (repeat' split)
 all_goals first | omega | rfl | (exfalso; omega) | simp_all [go_sem]
def qjq (s : List UInt8) : N × Int × Int := q5p qoj s
def qcg9 (s : List UInt8) : N × Int × Int := q5p decK s
theorem qfe (s : List UInt8) (hs : s.length ≤ 400000) : qz Tryz.prog 6 [.str s] (resV (qjq s)) := by
 refine qj c0n (by simp) (by simp only [go_sem]) (by simp only [go_sem]) fun hw => ?_
 repeat' (first | refine vs_ ?_ | ((first | refine vr_ ?_ | refine qa (q28 hs qb1c q7o q2u) fun _ => ?_ | (refine cs_ ?_ ?_ <;> intro hc) | refine cj_ ?_ | fail) <;> (try refine ev_ ?_)) | with_reducible exact ti_)
 all_goals rfl
theorem qz7 (s : List UInt8) (hs : s.length ≤ 400000) : qz Tryz.prog 10 [.str s] (resV (qcg9 s)) := by
 refine qj c0o (by simp) (by simp only [go_sem]) (by simp only [go_sem]) fun hw => ?_
 repeat' (first | refine vs_ ?_ | ((first | refine vr_ ?_ | refine qa (q28 hs qbe8 qbki qb3y) fun _ => ?_ | (refine cs_ ?_ ?_ <;> intro hc) | refine cj_ ?_ | fail) <;> (try refine ev_ ?_)) | with_reducible exact ti_)
 all_goals rfl
end Go.Proofs.YtfjbmjplnmaclaaGreat
