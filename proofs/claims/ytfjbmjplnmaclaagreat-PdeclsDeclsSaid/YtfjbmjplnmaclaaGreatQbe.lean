/- Texts of this proof, joined. -/
import Derived.Test.YtfjbmjplnmaclaaGreatQbd

/- declarations: what is read (plain) -/
namespace Go.Proofs.YtfjbmjplnmaclaaGreat
open Go Go.RowKit Go.V
set_option linter.unusedVariables false
set_option linter.unusedSimpArgs false
set_option linter.unusedSectionVars false

abbrev MF := Bool → K → Bool × K × Bool
def rowF (one : K → R3) (more : MF) : Nat → Bool → K → List N → Bool × RL
 | 0, b, c, _ => (b, c, [], false)
 | f + 1, b, c, acc =>
   if (more b c).2.2 = true then
    if (one (more b c).2.1).2.2 = true then rowF one more f (more b c).1 (one (more b c).2.1).1 (acc ++ [(one (more b c).2.1).2.1])
    else ((more b c).1, (one (more b c).2.1).1, acc, false)
   else ((more b c).1, (more b c).2.1, acc, true)
def rowS (one : K → R3) (more : MF) (b : Bool) (c : K) (acc : List N) : Bool × RL := rowF one more (rest c + 1) b c acc
def qfw (p : K → Bool) : MF := fun b c => (b, c, p c)
def qb5 (x : List UInt8) : MF := fun b c => if b = true then (b, (qf c x).1, (qf c x).2) else (true, c, true)
def qgq : MF := fun b c => if isK c [125] = true then (b, c, false) else ((qb5 [59] b c).1, (qb5 [59] b c).2.1, (qb5 [59] b c).2.2 && !isK (qb5 [59] b c).2.1 [125])
def qh1 : MF := fun b c => if (qq c).kind = 0 then (b, c, false) else ((qb5 [59] b c).1, (qb5 [59] b c).2.1, (qb5 [59] b c).2.2 && !decide ((qq (qb5 [59] b c).2.1).kind = 0))
def qd8 (c : K) : Bool := decide ((qq c).kind = 1)
def qgh (c : K) : K × Option N := qbz (qb3 (rest c + 2)) c
def qh4 (c : K) : K × Option N := qb8 (qiw (rest c + 2)) c
def qd3 (c : K) : K × Option (List N) := qbj (qb3 (rest c + 2)) c
def qde (c : K) : R3 := ofO (qgh c)
def conN (t : T) (l : List N) : N := .mk 34 t.pos 0 t.text l
def conK (c : K) : R3 :=
 if (qn c 2).2 = true then ((rowS qde (qfw begT) false (qn c 2).1 []).2.1, conN (qev c 2) (rowS qde (qfw begT) false (qn c 2).1 []).2.2.1, (rowS qde (qfw begT) false (qn c 2).1 []).2.2.2)
 else ((qn c 2).1, N0, false)
def qrv (p : Int) (t : T) (v l : List N) : N := .mk 33 p v.length t.text l
def q1i (p : Int) (t : T) (v : List N) (w : K × Bool) : R3 :=
 if w.2 = true then ((rowS conK (qb5 [124]) false w.1 v).2.1, qrv p t v (rowS conK (qb5 [124]) false w.1 v).2.2.1, (rowS conK (qb5 [124]) false w.1 v).2.2.2)
 else (w.1, posN p, false)
def q4a (p : Int) (t : T) (r : RL) : R3 := q1i p t r.2.1 (qi r.1 [61])
def qmw (p : Int) (c : K) : R3 :=
 if (qn c 2).2 = true then q4a p (qev c 2) (rowS qde (qfw qd8) false (qn c 2).1 []).2
 else ((qn c 2).1, posN p, false)
def qbn (kind : Int) (c : K) : R3 :=
 if (qh4 c).2.isSome = true ∧ ((qh4 c).2.getD N0).kind ≠ kind then (qdh (qh4 c).1 5, (qh4 c).2.getD N0, false) else ofO (qh4 c)
def qn7 (r : RL) : RL := if r.2.2 = true then ((qi r.1 [125]).1, r.2.1, (qi r.1 [125]).2) else r
def qds (kind : Int) (c : K) (out : List N) : RL :=
 if (qi c [119, 104, 101, 114, 101]).2 = true then
  if (qi (qi c [119, 104, 101, 114, 101]).1 [123]).2 = true then qn7 (rowS (qbn kind) qgq false (qi (qi c [119, 104, 101, 114, 101]).1 [123]).1 out).2
  else ((qi (qi c [119, 104, 101, 114, 101]).1 [123]).1, out, false)
 else ((qi c [119, 104, 101, 114, 101]).1, out, false)
def q5b (k p : Int) : N := .mk k p 0 [] []
def qk8 (k p : Int) (t : T) (v l : List N) : N := .mk k p v.length t.text l
def q4o (k p : Int) (t : T) (v : List N) (a : K × Option N) : R3 :=
 if a.2.isSome = true then ((qds (if k = 35 then 32 else 31) a.1 (v ++ [a.2.getD N0])).1, qk8 k p t v (qds (if k = 35 then 32 else 31) a.1 (v ++ [a.2.getD N0])).2.1, (qds (if k = 35 then 32 else 31) a.1 (v ++ [a.2.getD N0])).2.2)
 else (a.1, qk8 k p t v [], false)
def q0e (k p : Int) (t : T) (v : List N) (c : K) : R3 :=
 if k = 35 ∧ (qq c).kind ≠ 1 then (qdh c 5, qk8 k p t v [], false) else q4o k p t v (qgh c)
def q55 (k p : Int) (c : K) (v : List N) : R3 :=
 if (qn c 2).2 = true then q0e k p (qev c 2) v (qn c 2).1 else ((qn c 2).1, q5b k p, false)
def ql2 (k p : Int) (c : K) : R3 :=
 if (qd3 c).2.isSome = true then q55 k p (qd3 c).1 ((qd3 c).2.getD []) else ((qd3 c).1, q5b k p, false)
def qpk : List UInt8 := [100, 97, 116, 97]
def qkb : List UInt8 := [99, 108, 97, 115, 115]
def qpi : List UInt8 := [105, 110, 115, 116, 97, 110, 99, 101]
def qdm (c : K) : R3 :=
 if (qf c qpk).2 = true then qmw (qq c).pos (qf c qpk).1
 else if (qf c qkb).2 = true then ql2 35 (qq c).pos (qf c qkb).1
 else if (qf c qpi).2 = true then ql2 36 (qq c).pos (qf c qpi).1
 else ofO (qh4 c)
def qpm (l : List N) : N := .mk 37 0 0 [] l
def qn1 (c : K) : K × Option N := ((rowS qdm qh1 false c []).2.1, some (qpm (rowS qdm qh1 false c []).2.2.1))
def decK (c : K) : K × Option N := ((qdm c).1, some (qdm c).2.1)

theorem qn9 {c : K} {k : Int} (hk : k ≠ 0) (h : (qn c k).2 = true) : rest (qn c k).1 < rest c := by
 obtain ⟨h1, h2⟩ := qhm h
 rw [(qlk h).1]
 have := qbk (c := c) (by rw [h2]; exact hk)
 simp only; omega
structure Goes (one : K → R3) : Prop where
 m : ∀ c, Mon c (one c).1
 l : ∀ c, (one c).2.2 = true → rest (one c).1 < rest c
def MonM (more : MF) : Prop := ∀ b c, Mon c (more b c).2.1
theorem monA (p : K → Bool) : MonM (qfw p) := fun b c => Mon.refl c
theorem monF (x : List UInt8) : MonM (qb5 x) := fun b c => by
 unfold qb5
 split
 ·exact qk c x
 ·exact Mon.refl c
theorem monB : MonM qgq := fun b c => by
 unfold qgq
 split
 ·exact Mon.refl c
 ·exact monF [59] b c
theorem monP : MonM qh1 := fun b c => by
 unfold qh1
 split
 ·exact Mon.refl c
 ·exact monF [59] b c
section
variable {one : K → R3} {more : MF} (ho : Goes one) (hm : MonM more)
include ho hm
theorem q3z : ∀ (f : Nat) (b : Bool) (c : K) (acc : List N), Mon c (rowF one more f b c acc).2.1
 | 0, b, c, acc => Mon.refl c
 | f + 1, b, c, acc => by
   rw [rowF]
   split
   ·split
    ·exact ((hm b c).trans (ho.m _)).trans (q3z f _ _ _)
    ·exact (hm b c).trans (ho.m _)
   ·exact hm b c
theorem q30 : ∀ (f : Nat) (b : Bool) (c : K) (acc : List N), (rowF one more f b c acc).2.2.1.length + rest (rowF one more f b c acc).2.1 ≤ acc.length + rest c
 | 0, b, c, acc => by simp [rowF]
 | f + 1, b, c, acc => by
   have h3 := (hm b c).2.1
   have h4 := (ho.m (more b c).2.1).2.1
   rw [rowF]
   split
   ·split
    ·rename_i h
     have h1 := ho.l _ h
     have h2 := q30 f (more b c).1 (one (more b c).2.1).1 (acc ++ [(one (more b c).2.1).2.1])
     simp only [List.length_append, List.length_cons, List.length_nil] at h2
     omega
    ·simp only; omega
   ·simp only; omega
theorem q73 (hz : ∀ c, SzB c (one c)) : ∀ (f : Nat) (b : Bool) (c : K) (acc : List N), rest c < f → szs (rowF one more f b c acc).2.2.1 + 2 * rest (rowF one more f b c acc).2.1 ≤ szs acc + 2 * rest c
 | 0, b, c, acc => fun h => absurd h (by omega)
 | f + 1, b, c, acc => fun hf => by
   have h3 := (hm b c).2.1
   have h4 := (ho.m (more b c).2.1).2.1
   rw [rowF]
   split
   ·split
    ·rename_i h
     have h1 := ho.l _ h
     have h5 := hz _ h
     have h2 := q73 hz f (more b c).1 (one (more b c).2.1).1 (acc ++ [(one (more b c).2.1).2.1]) (by omega)
     rw [qhd] at h2
     simp only [szs] at h2
     omega
    ·simp only; omega
   ·simp only; omega
theorem qgz (b : Bool) (c : K) (acc : List N) : Mon c (rowS one more b c acc).2.1 := q3z ho hm _ b c acc
theorem qbgy (b : Bool) (c : K) (acc : List N) : (rowS one more b c acc).2.2.1.length + rest (rowS one more b c acc).2.1 ≤ acc.length + rest c := q30 ho hm _ b c acc
theorem qsd (hz : ∀ c, SzB c (one c)) (b : Bool) (c : K) (acc : List N) : szs (rowS one more b c acc).2.2.1 + 2 * rest (rowS one more b c acc).2.1 ≤ szs acc + 2 * rest c := q73 ho hm hz _ b c acc (Nat.lt_succ_self _)
end
theorem goes_atom : Goes qde := ⟨fun c => qey (qcy _) c, fun c h => qd9 (qcy _) h⟩
theorem szA : ∀ c, SzO c (qgh c) := fun c n h => by
 have h1 := qd9 (qcy (rest c + 2)) (c := c) (by unfold qgh at h; rw [h]; rfl)
 have h2 := qlr (qnq (rest c + 2)) h
 unfold qgh at h ⊢
 omega
theorem qqa {c : K} (h : qd8 c = true) : (qde c).2.2 = true := by
 have hk : (qq c).kind = 1 := by simpa [qd8] using h
 unfold qde ofO qgh
 rw [qbz, if_pos hk]; rfl
theorem qwx : ∀ (f : Nat) (b : Bool) (c : K) (acc : List N), rest c < f → (rowF qde (qfw qd8) f b c acc).2.2.2 = true
 | 0, _, _, _, h => absurd h (by omega)
 | f + 1, b, c, acc, hf => by
   rw [rowF]
   cases ha : qd8 c with
   | false =>
     rw [if_neg (by show ¬ qd8 c = true; rw [ha]; decide)]
   | true =>
     have h1 := goes_atom.l c (qqa ha)
     rw [if_pos (show (qfw qd8 b c).2.2 = true from ha), if_pos (show (qde (qfw qd8 b c).2.1).2.2 = true from qqa ha)]
     exact qwx f _ _ _ (by show rest (qde c).1 < f; omega)
theorem q3e {c : K} {r : K × Option N} (h : SzO c r) : SzB c (ofO r) := fun hs => qgx h hs
theorem goes_con : Goes conK where
 m := fun c => by
   unfold conK
   split
   ·exact (qbf c 2).trans (qgz goes_atom (monA _) _ _ _)
   ·exact qbf c 2
 l := fun c h => by
   unfold conK at h ⊢
   split at h
   ·rename_i h1
    rw [if_pos h1]
    have h2 := qn9 (by decide) h1
    have h3 := (qgz goes_atom (monA begT) false (qn c 2).1 []).2.1
    simp only; omega
   ·cases h
theorem qcf1 : ∀ c, SzB c (conK c) := fun c h => by
 unfold conK at h ⊢
 split at h
 ·rename_i h1
  rw [if_pos h1]
  have h2 := qn9 (by decide) h1
  have h3 := qsd goes_atom (monA begT) (fun c => q3e (szA c)) false (qn c 2).1 []
  simp only [szs] at h3
  simp only [conN, qkm]; omega
 ·cases h
theorem qm5 (c : K) : Mon c (qh4 c).1 := qfs (qi3 _) c
theorem quw {c : K} (h : (qh4 c).2.isSome = true) : rest (qh4 c).1 < rest c := qks (qi3 _) h
theorem qvt : ∀ c, SzO c (qh4 c) := fun c => q29 (qbm1 _) c
theorem qbbq (p : Int) (t : T) (v : List N) (w : K × Bool) : Mon w.1 (q1i p t v w).1 := by
 unfold q1i
 split
 ·exact qgz goes_con (monF _) _ _ _
 ·exact Mon.refl _
theorem qrj (p : Int) (c : K) : Mon c (qmw p c).1 := by
 unfold qmw q4a
 split
 ·exact (((qbf c 2).trans (qgz goes_atom (monA _) _ _ _)).trans (qd _ _)).trans (qbbq _ _ _ _)
 ·exact qbf c 2
theorem qeb (kind : Int) : Goes (qbn kind) where
 m := fun c => by
   unfold qbn
   split
   ·exact (qm5 c).trans (qeg _ _)
   ·exact qm5 c
 l := fun c h => by
   unfold qbn at h ⊢
   split at h
   ·cases h
   ·rename_i h1
    rw [if_neg h1]
    exact quw h
theorem q6k (kind : Int) : ∀ c, SzB c (qbn kind c) := fun c h => by
 unfold qbn at h ⊢
 split at h
 ·cases h
 ·rename_i h1
  rw [if_neg h1]
  exact q3e (qvt c) h
theorem qx1 (r : RL) : Mon r.1 (qn7 r).1 := by
 unfold qn7
 split
 ·exact qd _ _
 ·exact Mon.refl _
theorem q9v (kind : Int) (c : K) (out : List N) : Mon c (qds kind c out).1 := by
 unfold qds
 split
 ·split
  ·exact (((qd c _).trans (qd _ _)).trans (qgz (qeb kind) monB _ _ _)).trans (qx1 _)
  ·exact (qd c _).trans (qd _ _)
 ·exact qd c _
theorem qbgl (kind : Int) (c : K) (out : List N) : szs (qds kind c out).2.1 + 2 * rest (qds kind c out).1 ≤ szs out + 2 * rest c := by
 have h1 := (qd c [119, 104, 101, 114, 101]).2.1
 have h2 := (qd (qi c [119, 104, 101, 114, 101]).1 [123]).2.1
 unfold qds
 split
 ·split
  ·have h3 := qsd (qeb kind) monB (q6k kind) false (qi (qi c [119, 104, 101, 114, 101]).1 [123]).1 out
   have h4 := (qx1 (rowS (qbn kind) qgq false (qi (qi c [119, 104, 101, 114, 101]).1 [123]).1 out).2).2.1
   unfold qn7 at h4 ⊢
   split
   ·rename_i h5
    rw [if_pos h5] at h4
    simp only at h4 ⊢; omega
   ·omega
  ·simp only; omega
 ·simp only; omega
theorem qhz (c : K) : Mon c (qgh c).1 := qey (qcy _) c
theorem qgp (c : K) : Mon c (qd3 c).1 := qhc (qcy _) c
theorem q92 (k p : Int) (t : T) (v : List N) (c : K) : Mon c (q0e k p t v c).1 := by
 unfold q0e q4o
 split
 ·exact qeg _ _
 ·split
  ·exact (qhz c).trans (q9v _ _ _)
  ·exact qhz c
theorem qnh (k p : Int) (c : K) : Mon c (ql2 k p c).1 := by
 unfold ql2 q55
 split
 ·split
  ·exact ((qgp c).trans (qbf _ _)).trans (q92 _ _ _ _ _)
  ·exact (qgp c).trans (qbf _ _)
 ·exact qgp c
theorem goes_decl : Goes qdm where
 m := fun c => by
   unfold qdm
   split
   ·exact (qk c _).trans (qrj _ _)
   ·split
    ·exact (qk c _).trans (qnh _ _ _)
    ·split
     ·exact (qk c _).trans (qnh _ _ _)
     ·exact qm5 c
 l := fun c h => by
   unfold qdm at h ⊢
   split at h
   ·rename_i h1
    rw [if_pos h1]
    have h2 := qc1 h1
    have h3 := (qrj (qq c).pos (qf c qpk).1).2.1
    omega
   ·rename_i h1
    rw [if_neg h1]
    split at h
    ·rename_i h1
     rw [if_pos h1]
     have h2 := qc1 h1
     have h3 := (qnh 35 (qq c).pos (qf c qkb).1).2.1
     omega
    ·rename_i h1
     rw [if_neg h1]
     split at h
     ·rename_i h1
      rw [if_pos h1]
      have h2 := qc1 h1
      have h3 := (qnh 36 (qq c).pos (qf c qpi).1).2.1
      omega
     ·rename_i h1
      rw [if_neg h1]
      exact quw h
theorem q5l {c : K} {l : List N} (h : (qd3 c).2 = some l) : l.length ≤ rest c := qpb (qcy _) h
theorem qxf {c : K} {l : List N} (h : (qd3 c).2 = some l) : szs l + rest (qd3 c).1 ≤ rest c := by
 have h0 := (qk c [40]).2.1
 have hm := qcy (rest c + 2)
 unfold qd3 at h ⊢
 unfold qbj at h ⊢
 split at h
 ·rename_i h1
  rw [if_pos h1]
  have h2 := qji h
  have hB : szs l + rest (qg2 (qb3 (rest c + 2)) c).1 ≤ rest c := by
   unfold qg2 at h2 ⊢
   split at h2
   ·rename_i h3
    rw [if_pos h3]
    cases h2
    simp only [szs]; omega
   ·rename_i h3
    rw [if_neg h3]
    have h4 := qry (qnq (rest c + 2)) _ _ _ _ _ h2
    simp only [szs] at h4
    omega
  unfold qgi at h ⊢
  generalize qg2 (qb3 (rest c + 2)) c = r at *
  have h5 := (qd r.1 [41]).2.1
  have h6 := (qd (qi r.1 [41]).1 [61, 62]).2.1
  have h7 := (qd r.1 [61, 62]).2.1
  repeat' split
  all_goals (simp only; omega)
 ·rename_i h1
  rw [if_neg h1]
  simp only at h ⊢
  split at h
  ·cases h
  ·cases h; simp only [szs]; omega
theorem q1y (p : Int) (c : K) : sz (qmw p c).2.1 + 2 * rest (qmw p c).1 ≤ 2 * rest c + 1 := by
 have h1 := (qbf c 2).2.1
 have h2 := (qrj p c).2.1
 unfold qmw q4a q1i at h2 ⊢
 split
 ·have h3 := qsd goes_atom (monA qd8) (fun c => q3e (szA c)) false (qn c 2).1 []
  generalize rowS qde (qfw qd8) false (qn c 2).1 [] = r at *
  have h4 := (qd r.2.1 [61]).2.1
  simp only [szs] at h3
  split
  ·have h5 := qsd goes_con (monF [124]) qcf1 false (qi r.2.1 [61]).1 r.2.2.1
   simp only [qrv, qkm]; omega
  ·simp only [posN, qkm, szs]; omega
 ·simp only [posN, qkm, szs]; omega
theorem qp9 (k p : Int) (c : K) : sz (ql2 k p c).2.1 + 2 * rest (ql2 k p c).1 ≤ 2 * rest c + 1 := by
 have h1 := (qgp c).2.1
 unfold ql2 q55
 split
 ·rename_i h2
  obtain ⟨l, hl⟩ := Option.isSome_iff_exists.1 h2
  have h3 := qxf hl
  rw [hl, Option.getD_some]
  have h4 := (qbf (qd3 c).1 2).2.1
  split
  ·unfold q0e q4o
   generalize (qn (qd3 c).1 2).1 = d at *
   split
   ·have := (qeg d 5).2.1
    simp only [qk8, qkm, szs]; omega
   ·have h5 := (qhz d).2.1
    split
    ·rename_i h6
     have h7 := qgx (szA d) h6
     have h8 := qbgl (if k = 35 then 32 else 31) (qgh d).1 (l ++ [(qgh d).2.getD N0])
     rw [qhd] at h8
     simp only [szs] at h8
     simp only [qk8, qkm]; omega
    ·simp only [qk8, qkm, szs]; omega
  ·simp only [q5b, qkm, szs]; omega
 ·simp only [q5b, qkm, szs]; omega
theorem qbfi (c : K) : sz (qdm c).2.1 + 2 * rest (qdm c).1 ≤ 2 * rest c + 1 := by
 have hb := qvt c
 have hb2 := (qm5 c).2.1
 unfold qdm
 split
 ·have h1 := (qk c qpk).2.1
  have := q1y (qq c).pos (qf c qpk).1
  omega
 ·split
  ·have h1 := (qk c qkb).2.1
   have := qp9 35 (qq c).pos (qf c qkb).1
   omega
  ·split
   ·have h1 := (qk c qpi).2.1
    have := qp9 36 (qq c).pos (qf c qpi).1
    omega
   ·unfold ofO
    cases hq : (qh4 c).2 with
    | none =>
      have : sz N0 = 1 := by rw [qkl]; rfl
      simp only [Option.getD_none]; omega
    | some n =>
      have := hb n hq
      simp only [Option.getD_some]; omega
theorem q8w : ∀ c, SzB c (qdm c) := fun c h => by
 unfold qdm at h ⊢
 split at h
 ·rename_i h1
  rw [if_pos h1]
  have h2 := qc1 h1
  have := q1y (qq c).pos (qf c qpk).1
  omega
 ·rename_i h1
  rw [if_neg h1]
  split at h
  ·rename_i h1
   rw [if_pos h1]
   have h2 := qc1 h1
   have := qp9 35 (qq c).pos (qf c qkb).1
   omega
  ·rename_i h1
   rw [if_neg h1]
   split at h
   ·rename_i h1
    rw [if_pos h1]
    have h2 := qc1 h1
    have := qp9 36 (qq c).pos (qf c qpi).1
    omega
   ·rename_i h1
    rw [if_neg h1]
    exact q3e (qvt c) h
theorem q60 (c : K) : Mon c (qn1 c).1 := qgz goes_decl monP _ _ _
theorem qbgg (c : K) : Mon c (decK c).1 := goes_decl.m c
theorem q20 (c : K) : sz ((qn1 c).2.getD N0) ≤ 2 * rest c + 1 := by
 have := qsd goes_decl monP q8w false c []
 simp only [szs] at this
 simp only [qn1, Option.getD_some, qpm, qkm]; omega
theorem qbce (c : K) : sz ((decK c).2.getD N0) ≤ 2 * rest c + 1 := by
 have := qbfi c
 simp only [decK, Option.getD_some]; omega
end Go.Proofs.YtfjbmjplnmaclaaGreat

/- declarations: the program: rows (printed by tools/rows.py) -/
set_option maxRecDepth 4000
namespace Go.Proofs.YtfjbmjplnmaclaaGreat
open Go Go.RowKit Go.V
set_option linter.unusedVariables false
set_option linter.unusedSimpArgs false

def frA (b : Bool) (c : K) : List Ent := [curE c, .blk [.ptr 0 0]]
theorem q3v (b : Bool) (c : K) : (frA b c).all (Ent.bd 2) = true := by
 simp only [frA, List.all_cons, List.all_nil, qbi, Bool.true_and, Bool.and_true]; rfl
theorem qp3 {g : FuncId} {b : Bool} {c c' : K} {r : N × Bool} {L : List Ent} {Q : List Ent → VO → Prop} (h : VCalls Tryz.prog g [curE c, .blk [.ptr 0 0]] [.ptr 1 0] fun H' o => H' = (frA b c') ∧ o = .val (resB r)) (hq : Q (curE c' :: .blk [.ptr 0 0] :: L) (.val (resB r))) :
 VApp Tryz.prog (curE c :: .blk [.ptr 0 0] :: L) (.fn g [] [.ptr 1 0]) [] Q :=
 qcd (first := []) (caps := [.ptr 1 0]) (by
  simp only [List.nil_append]
  refine qdj (H0 := [curE c, .blk [.ptr 0 0]]) (L := L) h (q3v b c) rfl ?_
  rintro H1 o ⟨rfl, rfl⟩
  exact ⟨rfl, q3v _ _, qol _ _, hq⟩)
theorem qi4 {g : FuncId} {b' a : Bool} {c c' : K} {L : List Ent} {Q : List Ent → VO → Prop} (h : VCalls Tryz.prog g [curE c, .blk [.ptr 0 0]] [.ptr 1 0] fun H' o => H' = (frA b' c') ∧ o = .val (.bool a)) (hq : Q (curE c' :: .blk [.ptr 0 0] :: L) (.val (.bool a))) :
 VApp Tryz.prog (curE c :: .blk [.ptr 0 0] :: L) (.fn g [] [.ptr 1 0]) [] Q :=
 qcd (first := []) (caps := [.ptr 1 0]) (by
  simp only [List.nil_append]
  refine qdj (H0 := [curE c, .blk [.ptr 0 0]]) (L := L) h (q3v false c) rfl ?_
  rintro H1 o ⟨rfl, rfl⟩
  exact ⟨rfl, q3v _ _, rfl, hq⟩)
def RowA (one : K → R3) (more : MF) (g1 g2 : FuncId) (b : Bool) (c : K) : Prop :=
 VCalls Tryz.prog 15 [curE c, .blk [.ptr 0 0]] [.nils, .fn g1 [] [.ptr 1 0], .fn g2 [] [.ptr 1 0]] fun H' o =>
  H' = curE (rowS one more b c []).2.1 :: .blk [.ptr 0 0] :: accE 5 (encs (rowS one more b c []).2.2.1) ∧ o = .val (.tup [accV 2 (encs (rowS one more b c []).2.2.1), .bool (rowS one more b c []).2.2.2])
def qw4 (g1 g2 : FuncId) (s : Bool × Nat × K × List N) : AF × List Ent :=
 (⟨[(0, accV 2 (encs s.2.2.2)), (1, .fn g1 [] [.ptr 1 0]), (2, .fn g2 [] [.ptr 1 0])], []⟩, curE s.2.2.1 :: .blk [.ptr 0 0] :: accE 5 (encs s.2.2.2))
theorem qz2 {one : K → R3} {more : MF} {g1 g2 : FuncId} {n : Nat} (ho : Goes one) (hm : MonM more)
 (h1 : ∀ b c, c.good → rest c ≤ n → VCalls Tryz.prog g1 [curE c, .blk [.ptr 0 0]] [.ptr 1 0] fun H' o => H' = (frA b (one c).1) ∧ o = .val (resB (one c).2))
 (h2 : ∀ b c, c.good → rest c ≤ n → VCalls Tryz.prog g2 [curE c, .blk [.ptr 0 0]] [.ptr 1 0] fun H' o => H' = (frA (more b c).1 (more b c).2.1) ∧ o = .val (.bool (more b c).2.2))
 (b0 : Bool) (c0 : K) (hg : c0.good) (hr : rest c0 ≤ n) : RowA one more g1 g2 b0 c0 := by
 unfold RowA
 have hl : ([] : List N).length + rest c0 ≤ 1048578 := by have h9 := hg.rest; unfold rest; simp only [List.length_nil]; omega
 obtain ⟨kk, hk1, hk2, hk0⟩ : ∃ k : Nat, ((rowS one more b0 c0 []).2.2.1 = [] → k = 2) ∧ ((rowS one more b0 c0 []).2.2.1 ≠ [] → k = 3) ∧ 2 ≤ k := by
  by_cases h : (rowS one more b0 c0 []).2.2.1 = []
  ·exact ⟨2, fun _ => rfl, fun g => absurd h g, Nat.le_refl _⟩
  ·exact ⟨3, fun g => absurd g h, fun _ => rfl, Nat.le_succ _⟩
 refine qd1 c0bg kk (by simpa using hk0) (by simp) ?_
 generalize htg : rowS one more b0 c0 [] = tg at hk1 hk2 ⊢
 unfold rowS at htg
 repeat' (first | refine vs_ ?_ | ((first | refine vr_ ?_ | (refine cs_ ?_ ?_ <;> intro hc) | refine cj_ ?_ | fail) <;> (try refine ev_ ?_)) | with_reducible exact ti_)
 refine qbm (S := Bool × Nat × K × List N) (fun s => s.2.2.1.good ∧ rest s.2.2.1 ≤ n ∧ rowF one more s.2.1 s.1 s.2.2.1 s.2.2.2 = tg ∧ rest s.2.2.1 < s.2.1 ∧ s.2.2.2.length + rest s.2.2.1 ≤ 1048578) (qw4 g1 g2) (fun s => rest s.2.2.1) ?_ ?_
 ·refine q8 (b0, rest c0 + 1, c0, []) [0, 1] ⟨hg, hr, htg, Nat.lt_succ_self _, hl⟩ rfl (by simp) ?_ ?_ ?_
  all_goals simp only [qw4, encs, qr, qt]
  all_goals (refine ev_ ?_; (try with_reducible exact ti_))
 ·rintro ⟨fl, fu, d, acc⟩ ⟨i1, i2, i3, i4, i5⟩
  simp only at i1 i2 i3 i4 i5
  obtain ⟨fu, rfl⟩ : ∃ k, fu = k + 1 := ⟨fu - 1, by omega⟩
  rw [rowF] at i3
  have hcap : qdq (acc.length + 1) 64 := capN (by omega)
  have hmore := h2 fl d i1 i2
  have g1 := (hm fl d).1 i1
  have r1 := (hm fl d).2.1
  have hone := h1 (more fl d).1 (more fl d).2.1 g1 (by omega)
  have g2 := (ho.m (more fl d).2.1).1 g1
  have r2 := (ho.m (more fl d).2.1).2.1
  have hlt := ho.l (more fl d).2.1
  unfold qw4
  generalize more fl d = M at *
  obtain ⟨fl', d', ans⟩ := M
  simp only at hmore g1 r1 hone g2 r2 hlt i3
  generalize one d' = r at *
  obtain ⟨e, y, ok⟩ := r
  simp only at hone g2 r2 hlt i3
  cases ans with
  | false =>
    rw [if_neg (by simp)] at i3
    subst i3
    by_cases h0 : acc = []
    ·subst h0
     obtain rfl := hk1 rfl
     simp only [encs, qr, qt]
     repeat' (first | refine vs_ ?_ | ((first | refine vr_ ?_ | refine qi4 hmore ?_ | (refine cs_ ?_ ?_ <;> intro hc) | refine cj_ ?_ | fail) <;> (try refine ev_ ?_)) | with_reducible exact ti_)
     all_goals first | exact ⟨rfl, rfl⟩
    ·have hne := q9 h0
     obtain rfl := hk2 h0
     simp only [qbd hne, qbc hne, qx]
     repeat' (first | refine vs_ ?_ | ((first | refine vr_ ?_ | refine qi4 hmore ?_ | (refine cs_ ?_ ?_ <;> intro hc) | refine cj_ ?_ | fail) <;> (try refine ev_ ?_)) | with_reducible exact ti_)
     all_goals first | exact ⟨rfl, rfl⟩
  | true =>
    rw [if_pos rfl] at i3
    cases ok with
    | false =>
      rw [if_neg (by simp)] at i3
      subst i3
      by_cases h0 : acc = []
      ·subst h0
       obtain rfl := hk1 rfl
       simp only [encs, qr, qt]
       repeat' (first | refine vs_ ?_ | ((first | refine vr_ ?_ | refine qi4 hmore ?_ | refine qp3 hone ?_ | (refine cs_ ?_ ?_ <;> intro hc) | refine cj_ ?_ | fail) <;> (try refine ev_ ?_)) | with_reducible exact ti_)
       all_goals first | exact ⟨rfl, rfl⟩
      ·have hne := q9 h0
       obtain rfl := hk2 h0
       simp only [qbd hne, qbc hne, qx]
       repeat' (first | refine vs_ ?_ | ((first | refine vr_ ?_ | refine qi4 hmore ?_ | refine qp3 hone ?_ | (refine cs_ ?_ ?_ <;> intro hc) | refine cj_ ?_ | fail) <;> (try refine ev_ ?_)) | with_reducible exact ti_)
       all_goals first | exact ⟨rfl, rfl⟩
    | true =>
      have hlt := hlt rfl
      rw [if_pos rfl] at i3
      have hne3 : ¬ acc ++ [y] = [] := by simp
      have hlen : (acc ++ [y]).length = acc.length + 1 := by simp
      by_cases h0 : acc = []
      ·subst h0
       simp only [encs, qr, qt]
       repeat' (first | refine vs_ ?_ | ((first | refine vr_ ?_ | refine qi4 hmore ?_ | refine qp3 hone ?_ | (refine cs_ ?_ ?_ <;> intro hc) | refine cj_ ?_ | fail) <;> (try refine ev_ ?_)) | with_reducible exact ti_)
       refine q8 (fl', fu, e, [] ++ [y]) [0, 1, 3] ⟨⟨g2, by simp only; omega, i3, by simp only; omega, by simp only [hlen]; omega⟩, by simp only; omega⟩ rfl (by simp) ?_ ?_ ?_
       all_goals simp only [qw4, qbc (q9 hne3), qbd (q9 hne3), qx, hlen, ← qe]
       all_goals (refine ev_ ?_; (try with_reducible exact ti_))
       all_goals first | (rw [qe]; exact qo _ _) | exact ⟨rfl, rfl⟩ | rfl | (rw [qe, qo, qbb]; exact ⟨rfl, rfl⟩)
      ·have hne := q9 h0
       simp only [qbd hne, qbc hne, qx]
       repeat' (first | refine vs_ ?_ | ((first | refine vr_ ?_ | refine qi4 hmore ?_ | refine qp3 hone ?_ | (refine cs_ ?_ ?_ <;> intro hc) | refine cj_ ?_ | fail) <;> (try refine ev_ ?_)) | with_reducible exact ti_)
       refine q8 (fl', fu, e, acc ++ [y]) [0, 1, 4] ⟨⟨g2, by simp only; omega, i3, by simp only; omega, by simp only [hlen]; omega⟩, by simp only; omega⟩ rfl (by simp) ?_ ?_ ?_
       all_goals simp only [qw4, qbc (q9 hne3), qbd (q9 hne3), qx, hlen, ← qe]
       all_goals (refine ev_ ?_; (try with_reducible exact ti_))
       all_goals first | (rw [qe]; exact qo _ _) | exact ⟨rfl, rfl⟩ | rfl | (rw [qe, qo, qbb]; exact ⟨rfl, rfl⟩)

def frD (x : List UInt8) (b : Bool) (c : K) : List Ent := [curE c, .blk [.ptr 0 0], .blk [.ptr 0 0], .blk [.str x], .blk [.bool b]]
theorem q2g {x : List UInt8} (b : Bool) (c : K) : (frD x b c).all (Ent.bd 5) = true := by
 simp only [frD, List.all_cons, List.all_nil, qbi, Bool.true_and, Bool.and_true]; rfl
theorem qiu {g : FuncId} {x : List UInt8} {b : Bool} {c c' : K} {r : N × Bool} {L : List Ent} {Q : List Ent → VO → Prop} (h : VCalls Tryz.prog g [curE c, .blk [.ptr 0 0], .blk [.ptr 0 0], .blk [.str x], .blk [.bool b]] [.ptr 1 0] fun H' o => H' = (frD x b c') ∧ o = .val (resB r)) (hq : Q (curE c' :: .blk [.ptr 0 0] :: .blk [.ptr 0 0] :: .blk [.str x] :: .blk [.bool b] :: L) (.val (resB r))) :
 VApp Tryz.prog (curE c :: .blk [.ptr 0 0] :: .blk [.ptr 0 0] :: .blk [.str x] :: .blk [.bool b] :: L) (.fn g [] [.ptr 1 0]) [] Q :=
 qcd (first := []) (caps := [.ptr 1 0]) (by
  simp only [List.nil_append]
  refine qdj (H0 := [curE c, .blk [.ptr 0 0], .blk [.ptr 0 0], .blk [.str x], .blk [.bool b]]) (L := L) h (q2g (x := x) b c) rfl ?_
  rintro H1 o ⟨rfl, rfl⟩
  exact ⟨rfl, q2g _ _, qol _ _, hq⟩)
theorem qej {g : FuncId} {x : List UInt8} {b b' a : Bool} {c c' : K} {L : List Ent} {Q : List Ent → VO → Prop} (h : VCalls Tryz.prog g [curE c, .blk [.ptr 0 0], .blk [.ptr 0 0], .blk [.str x], .blk [.bool b]] [.ptr 4 0, .ptr 2 0, .ptr 3 0] fun H' o => H' = (frD x b' c') ∧ o = .val (.bool a)) (hq : Q (curE c' :: .blk [.ptr 0 0] :: .blk [.ptr 0 0] :: .blk [.str x] :: .blk [.bool b'] :: L) (.val (.bool a))) :
 VApp Tryz.prog (curE c :: .blk [.ptr 0 0] :: .blk [.ptr 0 0] :: .blk [.str x] :: .blk [.bool b] :: L) (.fn g [] [.ptr 4 0, .ptr 2 0, .ptr 3 0]) [] Q :=
 qcd (first := []) (caps := [.ptr 4 0, .ptr 2 0, .ptr 3 0]) (by
  simp only [List.nil_append]
  refine qdj (H0 := [curE c, .blk [.ptr 0 0], .blk [.ptr 0 0], .blk [.str x], .blk [.bool b]]) (L := L) h (q2g (x := x) b c) rfl ?_
  rintro H1 o ⟨rfl, rfl⟩
  exact ⟨rfl, q2g _ _, rfl, hq⟩)
def RowD (one : K → R3) (more : MF) (g1 g2 : FuncId) (x : List UInt8) (b : Bool) (c : K) : Prop :=
 VCalls Tryz.prog 15 [curE c, .blk [.ptr 0 0], .blk [.ptr 0 0], .blk [.str x], .blk [.bool b]] [.nils, .fn g1 [] [.ptr 1 0], .fn g2 [] [.ptr 4 0, .ptr 2 0, .ptr 3 0]] fun H' o =>
  H' = curE (rowS one more b c []).2.1 :: .blk [.ptr 0 0] :: .blk [.ptr 0 0] :: .blk [.str x] :: .blk [.bool (rowS one more b c []).1] :: accE 5 (encs (rowS one more b c []).2.2.1) ∧ o = .val (.tup [accV 5 (encs (rowS one more b c []).2.2.1), .bool (rowS one more b c []).2.2.2])
def qzf (g1 g2 : FuncId) (x : List UInt8) (s : Bool × Nat × K × List N) : AF × List Ent :=
 (⟨[(0, accV 5 (encs s.2.2.2)), (1, .fn g1 [] [.ptr 1 0]), (2, .fn g2 [] [.ptr 4 0, .ptr 2 0, .ptr 3 0])], []⟩, curE s.2.2.1 :: .blk [.ptr 0 0] :: .blk [.ptr 0 0] :: .blk [.str x] :: .blk [.bool s.1] :: accE 5 (encs s.2.2.2))
theorem qbb8 {one : K → R3} {more : MF} {g1 g2 : FuncId} {x : List UInt8} {n : Nat} (ho : Goes one) (hm : MonM more)
 (h1 : ∀ b c, c.good → rest c ≤ n → VCalls Tryz.prog g1 [curE c, .blk [.ptr 0 0], .blk [.ptr 0 0], .blk [.str x], .blk [.bool b]] [.ptr 1 0] fun H' o => H' = (frD x b (one c).1) ∧ o = .val (resB (one c).2))
 (h2 : ∀ b c, c.good → rest c ≤ n → VCalls Tryz.prog g2 [curE c, .blk [.ptr 0 0], .blk [.ptr 0 0], .blk [.str x], .blk [.bool b]] [.ptr 4 0, .ptr 2 0, .ptr 3 0] fun H' o => H' = (frD x (more b c).1 (more b c).2.1) ∧ o = .val (.bool (more b c).2.2))
 (b0 : Bool) (c0 : K) (hg : c0.good) (hr : rest c0 ≤ n) : RowD one more g1 g2 x b0 c0 := by
 unfold RowD
 have hl : ([] : List N).length + rest c0 ≤ 1048578 := by have h9 := hg.rest; unfold rest; simp only [List.length_nil]; omega
 obtain ⟨kk, hk1, hk2, hk0⟩ : ∃ k : Nat, ((rowS one more b0 c0 []).2.2.1 = [] → k = 5) ∧ ((rowS one more b0 c0 []).2.2.1 ≠ [] → k = 6) ∧ 5 ≤ k := by
  by_cases h : (rowS one more b0 c0 []).2.2.1 = []
  ·exact ⟨5, fun _ => rfl, fun g => absurd h g, Nat.le_refl _⟩
  ·exact ⟨6, fun g => absurd g h, fun _ => rfl, Nat.le_succ _⟩
 refine qd1 c0bg kk (by simpa using hk0) (by simp) ?_
 generalize htg : rowS one more b0 c0 [] = tg at hk1 hk2 ⊢
 unfold rowS at htg
 repeat' (first | refine vs_ ?_ | ((first | refine vr_ ?_ | (refine cs_ ?_ ?_ <;> intro hc) | refine cj_ ?_ | fail) <;> (try refine ev_ ?_)) | with_reducible exact ti_)
 refine qbm (S := Bool × Nat × K × List N) (fun s => s.2.2.1.good ∧ rest s.2.2.1 ≤ n ∧ rowF one more s.2.1 s.1 s.2.2.1 s.2.2.2 = tg ∧ rest s.2.2.1 < s.2.1 ∧ s.2.2.2.length + rest s.2.2.1 ≤ 1048578) (qzf g1 g2 x) (fun s => rest s.2.2.1) ?_ ?_
 ·refine q8 (b0, rest c0 + 1, c0, []) [0, 1, 2, 3, 4] ⟨hg, hr, htg, Nat.lt_succ_self _, hl⟩ rfl (by simp) ?_ ?_ ?_
  all_goals simp only [qzf, encs, qr, qt]
  all_goals (refine ev_ ?_; (try with_reducible exact ti_))
 ·rintro ⟨fl, fu, d, acc⟩ ⟨i1, i2, i3, i4, i5⟩
  simp only at i1 i2 i3 i4 i5
  obtain ⟨fu, rfl⟩ : ∃ k, fu = k + 1 := ⟨fu - 1, by omega⟩
  rw [rowF] at i3
  have hcap : qdq (acc.length + 1) 64 := capN (by omega)
  have hmore := h2 fl d i1 i2
  have g1 := (hm fl d).1 i1
  have r1 := (hm fl d).2.1
  have hone := h1 (more fl d).1 (more fl d).2.1 g1 (by omega)
  have g2 := (ho.m (more fl d).2.1).1 g1
  have r2 := (ho.m (more fl d).2.1).2.1
  have hlt := ho.l (more fl d).2.1
  unfold qzf
  generalize more fl d = M at *
  obtain ⟨fl', d', ans⟩ := M
  simp only at hmore g1 r1 hone g2 r2 hlt i3
  generalize one d' = r at *
  obtain ⟨e, y, ok⟩ := r
  simp only at hone g2 r2 hlt i3
  cases ans with
  | false =>
    rw [if_neg (by simp)] at i3
    subst i3
    by_cases h0 : acc = []
    ·subst h0
     obtain rfl := hk1 rfl
     simp only [encs, qr, qt]
     repeat' (first | refine vs_ ?_ | ((first | refine vr_ ?_ | refine qej hmore ?_ | (refine cs_ ?_ ?_ <;> intro hc) | refine cj_ ?_ | fail) <;> (try refine ev_ ?_)) | with_reducible exact ti_)
     all_goals first | exact ⟨rfl, rfl⟩
    ·have hne := q9 h0
     obtain rfl := hk2 h0
     simp only [qbd hne, qbc hne, qx]
     repeat' (first | refine vs_ ?_ | ((first | refine vr_ ?_ | refine qej hmore ?_ | (refine cs_ ?_ ?_ <;> intro hc) | refine cj_ ?_ | fail) <;> (try refine ev_ ?_)) | with_reducible exact ti_)
     all_goals first | exact ⟨rfl, rfl⟩
  | true =>
    rw [if_pos rfl] at i3
    cases ok with
    | false =>
      rw [if_neg (by simp)] at i3
      subst i3
      by_cases h0 : acc = []
      ·subst h0
       obtain rfl := hk1 rfl
       simp only [encs, qr, qt]
       repeat' (first | refine vs_ ?_ | ((first | refine vr_ ?_ | refine qej hmore ?_ | refine qiu hone ?_ | (refine cs_ ?_ ?_ <;> intro hc) | refine cj_ ?_ | fail) <;> (try refine ev_ ?_)) | with_reducible exact ti_)
       all_goals first | exact ⟨rfl, rfl⟩
      ·have hne := q9 h0
       obtain rfl := hk2 h0
       simp only [qbd hne, qbc hne, qx]
       repeat' (first | refine vs_ ?_ | ((first | refine vr_ ?_ | refine qej hmore ?_ | refine qiu hone ?_ | (refine cs_ ?_ ?_ <;> intro hc) | refine cj_ ?_ | fail) <;> (try refine ev_ ?_)) | with_reducible exact ti_)
       all_goals first | exact ⟨rfl, rfl⟩
    | true =>
      have hlt := hlt rfl
      rw [if_pos rfl] at i3
      have hne3 : ¬ acc ++ [y] = [] := by simp
      have hlen : (acc ++ [y]).length = acc.length + 1 := by simp
      by_cases h0 : acc = []
      ·subst h0
       simp only [encs, qr, qt]
       repeat' (first | refine vs_ ?_ | ((first | refine vr_ ?_ | refine qej hmore ?_ | refine qiu hone ?_ | (refine cs_ ?_ ?_ <;> intro hc) | refine cj_ ?_ | fail) <;> (try refine ev_ ?_)) | with_reducible exact ti_)
       refine q8 (fl', fu, e, [] ++ [y]) [0, 1, 2, 3, 4, 6] ⟨⟨g2, by simp only; omega, i3, by simp only; omega, by simp only [hlen]; omega⟩, by simp only; omega⟩ rfl (by simp) ?_ ?_ ?_
       all_goals simp only [qzf, qbc (q9 hne3), qbd (q9 hne3), qx, hlen, ← qe]
       all_goals (refine ev_ ?_; (try with_reducible exact ti_))
       all_goals first | (rw [qe]; exact qo _ _) | exact ⟨rfl, rfl⟩ | rfl | (rw [qe, qo, qbb]; exact ⟨rfl, rfl⟩)
      ·have hne := q9 h0
       simp only [qbd hne, qbc hne, qx]
       repeat' (first | refine vs_ ?_ | ((first | refine vr_ ?_ | refine qej hmore ?_ | refine qiu hone ?_ | (refine cs_ ?_ ?_ <;> intro hc) | refine cj_ ?_ | fail) <;> (try refine ev_ ?_)) | with_reducible exact ti_)
       refine q8 (fl', fu, e, acc ++ [y]) [0, 1, 2, 3, 4, 7] ⟨⟨g2, by simp only; omega, i3, by simp only; omega, by simp only [hlen]; omega⟩, by simp only; omega⟩ rfl (by simp) ?_ ?_ ?_
       all_goals simp only [qzf, qbc (q9 hne3), qbd (q9 hne3), qx, hlen, ← qe]
       all_goals (refine ev_ ?_; (try with_reducible exact ti_))
       all_goals first | (rw [qe]; exact qo _ _) | exact ⟨rfl, rfl⟩ | rfl | (rw [qe, qo, qbb]; exact ⟨rfl, rfl⟩)
def RovD (one : K → R3) (more : MF) (g1 g2 : FuncId) (x : List UInt8) (b : Bool) (c : K) (a0 : List N) : Prop :=
 VCalls Tryz.prog 15 (curE c :: .blk [.ptr 0 0] :: .blk [.ptr 0 0] :: .blk [.str x] :: .blk [.bool b] :: [.app 5 (encs a0)]) [.row 5 a0.length, .fn g1 [] [.ptr 1 0], .fn g2 [] [.ptr 4 0, .ptr 2 0, .ptr 3 0]] fun H' o =>
  ((rowS one more b c a0).2.2.1 = a0 → H' = curE (rowS one more b c a0).2.1 :: .blk [.ptr 0 0] :: .blk [.ptr 0 0] :: .blk [.str x] :: .blk [.bool (rowS one more b c a0).1] :: [.app 5 (encs a0)] ∧ o = .val (.tup [.row 5 a0.length, .bool (rowS one more b c a0).2.2.2])) ∧
  ((rowS one more b c a0).2.2.1 ≠ a0 → H' = curE (rowS one more b c a0).2.1 :: .blk [.ptr 0 0] :: .blk [.ptr 0 0] :: .blk [.str x] :: .blk [.bool (rowS one more b c a0).1] :: .dead :: [.app 5 (encs (rowS one more b c a0).2.2.1)] ∧ o = .val (.tup [.row 6 (rowS one more b c a0).2.2.1.length, .bool (rowS one more b c a0).2.2.2]))
def qyg (g1 g2 : FuncId) (x : List UInt8) (a0 : List N) (s : Bool × Nat × K × List N) : AF × List Ent :=
 if s.2.2.2.length = a0.length then (⟨[(0, .row 5 a0.length), (1, .fn g1 [] [.ptr 1 0]), (2, .fn g2 [] [.ptr 4 0, .ptr 2 0, .ptr 3 0])], []⟩, curE s.2.2.1 :: .blk [.ptr 0 0] :: .blk [.ptr 0 0] :: .blk [.str x] :: .blk [.bool s.1] :: [.app 5 (encs a0)])
 else (⟨[(0, .row 6 s.2.2.2.length), (1, .fn g1 [] [.ptr 1 0]), (2, .fn g2 [] [.ptr 4 0, .ptr 2 0, .ptr 3 0])], []⟩, curE s.2.2.1 :: .blk [.ptr 0 0] :: .blk [.ptr 0 0] :: .blk [.str x] :: .blk [.bool s.1] :: .dead :: [.app 5 (encs s.2.2.2)])
theorem q98 {one : K → R3} {more : MF} {g1 g2 : FuncId} {x : List UInt8} {n : Nat} (ho : Goes one) (hm : MonM more)
 (h1 : ∀ b c, c.good → rest c ≤ n → VCalls Tryz.prog g1 [curE c, .blk [.ptr 0 0], .blk [.ptr 0 0], .blk [.str x], .blk [.bool b]] [.ptr 1 0] fun H' o => H' = (frD x b (one c).1) ∧ o = .val (resB (one c).2))
 (h2 : ∀ b c, c.good → rest c ≤ n → VCalls Tryz.prog g2 [curE c, .blk [.ptr 0 0], .blk [.ptr 0 0], .blk [.str x], .blk [.bool b]] [.ptr 4 0, .ptr 2 0, .ptr 3 0] fun H' o => H' = (frD x (more b c).1 (more b c).2.1) ∧ o = .val (.bool (more b c).2.2))
 (b0 : Bool) (c0 : K) (a0 : List N) (hg : c0.good) (hr : rest c0 ≤ n) (hl : a0.length + rest c0 ≤ 1048578) : RovD one more g1 g2 x b0 c0 a0 := by
 unfold RovD
 obtain ⟨kk, hk1, hk2, hk0⟩ : ∃ k : Nat, ((rowS one more b0 c0 a0).2.2.1 = a0 → k = 6) ∧ ((rowS one more b0 c0 a0).2.2.1 ≠ a0 → k = 7) ∧ 6 ≤ k := by
  by_cases h : (rowS one more b0 c0 a0).2.2.1 = a0
  ·exact ⟨6, fun _ => rfl, fun g => absurd h g, Nat.le_refl _⟩
  ·exact ⟨7, fun g => absurd g h, fun _ => rfl, Nat.le_succ _⟩
 refine qd1 c0bg kk (by simpa using hk0) (by simp) ?_
 generalize htg : rowS one more b0 c0 a0 = tg at hk1 hk2 ⊢
 unfold rowS at htg
 repeat' (first | refine vs_ ?_ | ((first | refine vr_ ?_ | (refine cs_ ?_ ?_ <;> intro hc) | refine cj_ ?_ | fail) <;> (try refine ev_ ?_)) | with_reducible exact ti_)
 refine qbm (S := Bool × Nat × K × List N) (fun s => s.2.2.1.good ∧ rest s.2.2.1 ≤ n ∧ rowF one more s.2.1 s.1 s.2.2.1 s.2.2.2 = tg ∧ rest s.2.2.1 < s.2.1 ∧ s.2.2.2.length + rest s.2.2.1 ≤ 1048578 ∧ a0.length ≤ s.2.2.2.length ∧ (s.2.2.2.length = a0.length → s.2.2.2 = a0)) (qyg g1 g2 x a0) (fun s => rest s.2.2.1) ?_ ?_
 ·refine q8 (b0, rest c0 + 1, c0, a0) [0, 1, 2, 3, 4, 5] ⟨hg, hr, htg, Nat.lt_succ_self _, hl, Nat.le_refl _, fun _ => rfl⟩ rfl (by simp) ?_ ?_ ?_
  all_goals simp only [qyg, if_true]
  all_goals (refine ev_ ?_; (try with_reducible exact ti_))
  all_goals first | exact qo _ _ | exact ⟨rfl, rfl⟩ | rfl | (rw [qo, qbb]; exact ⟨rfl, rfl⟩)
 ·rintro ⟨fl, fu, d, acc⟩ ⟨i1, i2, i3, i4, i5, i6, i7⟩
  simp only at i6 i7
  simp only at i1 i2 i3 i4 i5
  obtain ⟨fu, rfl⟩ : ∃ k, fu = k + 1 := ⟨fu - 1, by omega⟩
  rw [rowF] at i3
  have hcap : qdq (acc.length + 1) 64 := capN (by omega)
  have hmore := h2 fl d i1 i2
  have g1 := (hm fl d).1 i1
  have r1 := (hm fl d).2.1
  have hone := h1 (more fl d).1 (more fl d).2.1 g1 (by omega)
  have g2 := (ho.m (more fl d).2.1).1 g1
  have r2 := (ho.m (more fl d).2.1).2.1
  have hlt := ho.l (more fl d).2.1
  unfold qyg
  generalize more fl d = M at *
  obtain ⟨fl', d', ans⟩ := M
  simp only at hmore g1 r1 hone g2 r2 hlt i3
  generalize one d' = r at *
  obtain ⟨e, y, ok⟩ := r
  simp only at hone g2 r2 hlt i3
  have hneA : ¬ acc.length + 1 = a0.length := by omega
  have hlen : (acc ++ [y]).length = acc.length + 1 := by simp
  by_cases h0 : acc = a0
  ·have h0l : acc.length = a0.length := by rw [h0]
   simp only [if_pos h0l]
   cases ans with
   | false =>
     rw [if_neg (by simp)] at i3
     subst i3
     obtain rfl := hk1 h0
     repeat' (first | refine vs_ ?_ | ((first | refine vr_ ?_ | refine qej hmore ?_ | (refine cs_ ?_ ?_ <;> intro hc) | refine cj_ ?_ | fail) <;> (try refine ev_ ?_)) | with_reducible exact ti_)
     all_goals exact ⟨fun _ => by first | trivial | exact ⟨rfl, rfl⟩, fun g => absurd h0 g⟩
   | true =>
     rw [if_pos rfl] at i3
     cases ok with
     | false =>
       rw [if_neg (by simp)] at i3
       subst i3
       obtain rfl := hk1 h0
       repeat' (first | refine vs_ ?_ | ((first | refine vr_ ?_ | refine qej hmore ?_ | refine qiu hone ?_ | (refine cs_ ?_ ?_ <;> intro hc) | refine cj_ ?_ | fail) <;> (try refine ev_ ?_)) | with_reducible exact ti_)
       all_goals exact ⟨fun _ => by first | trivial | exact ⟨rfl, rfl⟩, fun g => absurd h0 g⟩
     | true =>
       have hlt := hlt rfl
       rw [if_pos rfl] at i3
       subst h0
       repeat' (first | refine vs_ ?_ | ((first | refine vr_ ?_ | refine qej hmore ?_ | refine qiu hone ?_ | (refine cs_ ?_ ?_ <;> intro hc) | refine cj_ ?_ | fail) <;> (try refine ev_ ?_)) | with_reducible exact ti_)
       refine q8 (fl', fu, e, acc ++ [y]) [0, 1, 2, 3, 4, 5, 7] ⟨⟨g2, by simp only; omega, i3, by simp only; omega, by simp only [hlen]; omega, by simp only [hlen]; omega, fun h => by simp only [hlen] at h; omega⟩, by simp only; omega⟩ rfl (by simp) ?_ ?_ ?_
       all_goals simp only [qyg, hlen, if_neg hneA, ← qe]
       all_goals (refine ev_ ?_; (try with_reducible exact ti_))
       all_goals first | (rw [qe]; exact qo _ _) | exact ⟨rfl, rfl⟩ | rfl | (rw [qe, qo, qbb]; exact ⟨rfl, rfl⟩)
  ·have h0l : ¬ acc.length = a0.length := fun h => h0 (i7 h)
   simp only [if_neg h0l]
   cases ans with
   | false =>
     rw [if_neg (by simp)] at i3
     subst i3
     obtain rfl := hk2 h0
     repeat' (first | refine vs_ ?_ | ((first | refine vr_ ?_ | refine qej hmore ?_ | (refine cs_ ?_ ?_ <;> intro hc) | refine cj_ ?_ | fail) <;> (try refine ev_ ?_)) | with_reducible exact ti_)
     all_goals exact ⟨fun g => absurd g h0, fun _ => by first | trivial | exact ⟨rfl, rfl⟩⟩
   | true =>
     rw [if_pos rfl] at i3
     cases ok with
     | false =>
       rw [if_neg (by simp)] at i3
       subst i3
       obtain rfl := hk2 h0
       repeat' (first | refine vs_ ?_ | ((first | refine vr_ ?_ | refine qej hmore ?_ | refine qiu hone ?_ | (refine cs_ ?_ ?_ <;> intro hc) | refine cj_ ?_ | fail) <;> (try refine ev_ ?_)) | with_reducible exact ti_)
       all_goals exact ⟨fun g => absurd g h0, fun _ => by first | trivial | exact ⟨rfl, rfl⟩⟩
     | true =>
       have hlt := hlt rfl
       rw [if_pos rfl] at i3
       repeat' (first | refine vs_ ?_ | ((first | refine vr_ ?_ | refine qej hmore ?_ | refine qiu hone ?_ | (refine cs_ ?_ ?_ <;> intro hc) | refine cj_ ?_ | fail) <;> (try refine ev_ ?_)) | with_reducible exact ti_)
       refine q8 (fl', fu, e, acc ++ [y]) [0, 1, 2, 3, 4, 5, 8] ⟨⟨g2, by simp only; omega, i3, by simp only; omega, by simp only [hlen]; omega, by simp only [hlen]; omega, fun h => by simp only [hlen] at h; omega⟩, by simp only; omega⟩ rfl (by simp) ?_ ?_ ?_
       all_goals simp only [qyg, hlen, if_neg hneA, ← qe]
       all_goals (refine ev_ ?_; (try with_reducible exact ti_))
       all_goals first | (rw [qe]; exact qo _ _) | exact ⟨rfl, rfl⟩ | rfl | (rw [qe, qo, qbb]; exact ⟨rfl, rfl⟩)

def frP (x : List UInt8) (b : Bool) (c : K) : List Ent := [curE c, .blk [.ptr 0 0], .blk [.ptr 0 0], .blk [.str x], .blk [.bool b], .blk [.fn 34 [] [.ptr 4 0, .ptr 2 0, .ptr 3 0]]]
theorem q17 {x : List UInt8} (b : Bool) (c : K) : (frP x b c).all (Ent.bd 6) = true := by
 simp only [frP, List.all_cons, List.all_nil, qbi, Bool.true_and, Bool.and_true]; rfl
theorem qp1 {g : FuncId} {x : List UInt8} {b : Bool} {c c' : K} {r : N × Bool} {L : List Ent} {Q : List Ent → VO → Prop} (h : VCalls Tryz.prog g [curE c, .blk [.ptr 0 0], .blk [.ptr 0 0], .blk [.str x], .blk [.bool b], .blk [.fn 34 [] [.ptr 4 0, .ptr 2 0, .ptr 3 0]]] [.ptr 1 0] fun H' o => H' = (frP x b c') ∧ o = .val (resB r)) (hq : Q (curE c' :: .blk [.ptr 0 0] :: .blk [.ptr 0 0] :: .blk [.str x] :: .blk [.bool b] :: .blk [.fn 34 [] [.ptr 4 0, .ptr 2 0, .ptr 3 0]] :: L) (.val (resB r))) :
 VApp Tryz.prog (curE c :: .blk [.ptr 0 0] :: .blk [.ptr 0 0] :: .blk [.str x] :: .blk [.bool b] :: .blk [.fn 34 [] [.ptr 4 0, .ptr 2 0, .ptr 3 0]] :: L) (.fn g [] [.ptr 1 0]) [] Q :=
 qcd (first := []) (caps := [.ptr 1 0]) (by
  simp only [List.nil_append]
  refine qdj (H0 := [curE c, .blk [.ptr 0 0], .blk [.ptr 0 0], .blk [.str x], .blk [.bool b], .blk [.fn 34 [] [.ptr 4 0, .ptr 2 0, .ptr 3 0]]]) (L := L) h (q17 (x := x) b c) rfl ?_
  rintro H1 o ⟨rfl, rfl⟩
  exact ⟨rfl, q17 _ _, qol _ _, hq⟩)
theorem qi9 {g : FuncId} {x : List UInt8} {b b' a : Bool} {c c' : K} {L : List Ent} {Q : List Ent → VO → Prop} (h : VCalls Tryz.prog g [curE c, .blk [.ptr 0 0], .blk [.ptr 0 0], .blk [.str x], .blk [.bool b], .blk [.fn 34 [] [.ptr 4 0, .ptr 2 0, .ptr 3 0]]] [.ptr 1 0, .ptr 5 0] fun H' o => H' = (frP x b' c') ∧ o = .val (.bool a)) (hq : Q (curE c' :: .blk [.ptr 0 0] :: .blk [.ptr 0 0] :: .blk [.str x] :: .blk [.bool b'] :: .blk [.fn 34 [] [.ptr 4 0, .ptr 2 0, .ptr 3 0]] :: L) (.val (.bool a))) :
 VApp Tryz.prog (curE c :: .blk [.ptr 0 0] :: .blk [.ptr 0 0] :: .blk [.str x] :: .blk [.bool b] :: .blk [.fn 34 [] [.ptr 4 0, .ptr 2 0, .ptr 3 0]] :: L) (.fn g [] [.ptr 1 0, .ptr 5 0]) [] Q :=
 qcd (first := []) (caps := [.ptr 1 0, .ptr 5 0]) (by
  simp only [List.nil_append]
  refine qdj (H0 := [curE c, .blk [.ptr 0 0], .blk [.ptr 0 0], .blk [.str x], .blk [.bool b], .blk [.fn 34 [] [.ptr 4 0, .ptr 2 0, .ptr 3 0]]]) (L := L) h (q17 (x := x) b c) rfl ?_
  rintro H1 o ⟨rfl, rfl⟩
  exact ⟨rfl, q17 _ _, rfl, hq⟩)
def RowP (one : K → R3) (more : MF) (g1 g2 : FuncId) (x : List UInt8) (b : Bool) (c : K) : Prop :=
 VCalls Tryz.prog 15 [curE c, .blk [.ptr 0 0], .blk [.ptr 0 0], .blk [.str x], .blk [.bool b], .blk [.fn 34 [] [.ptr 4 0, .ptr 2 0, .ptr 3 0]]] [.nils, .fn g1 [] [.ptr 1 0], .fn g2 [] [.ptr 1 0, .ptr 5 0]] fun H' o =>
  H' = curE (rowS one more b c []).2.1 :: .blk [.ptr 0 0] :: .blk [.ptr 0 0] :: .blk [.str x] :: .blk [.bool (rowS one more b c []).1] :: .blk [.fn 34 [] [.ptr 4 0, .ptr 2 0, .ptr 3 0]] :: accE 5 (encs (rowS one more b c []).2.2.1) ∧ o = .val (.tup [accV 6 (encs (rowS one more b c []).2.2.1), .bool (rowS one more b c []).2.2.2])
def qya (g1 g2 : FuncId) (x : List UInt8) (s : Bool × Nat × K × List N) : AF × List Ent :=
 (⟨[(0, accV 6 (encs s.2.2.2)), (1, .fn g1 [] [.ptr 1 0]), (2, .fn g2 [] [.ptr 1 0, .ptr 5 0])], []⟩, curE s.2.2.1 :: .blk [.ptr 0 0] :: .blk [.ptr 0 0] :: .blk [.str x] :: .blk [.bool s.1] :: .blk [.fn 34 [] [.ptr 4 0, .ptr 2 0, .ptr 3 0]] :: accE 5 (encs s.2.2.2))
theorem q63 {one : K → R3} {more : MF} {g1 g2 : FuncId} {x : List UInt8} {n : Nat} (ho : Goes one) (hm : MonM more)
 (h1 : ∀ b c, c.good → rest c ≤ n → VCalls Tryz.prog g1 [curE c, .blk [.ptr 0 0], .blk [.ptr 0 0], .blk [.str x], .blk [.bool b], .blk [.fn 34 [] [.ptr 4 0, .ptr 2 0, .ptr 3 0]]] [.ptr 1 0] fun H' o => H' = (frP x b (one c).1) ∧ o = .val (resB (one c).2))
 (h2 : ∀ b c, c.good → rest c ≤ n → VCalls Tryz.prog g2 [curE c, .blk [.ptr 0 0], .blk [.ptr 0 0], .blk [.str x], .blk [.bool b], .blk [.fn 34 [] [.ptr 4 0, .ptr 2 0, .ptr 3 0]]] [.ptr 1 0, .ptr 5 0] fun H' o => H' = (frP x (more b c).1 (more b c).2.1) ∧ o = .val (.bool (more b c).2.2))
 (b0 : Bool) (c0 : K) (hg : c0.good) (hr : rest c0 ≤ n) : RowP one more g1 g2 x b0 c0 := by
 unfold RowP
 have hl : ([] : List N).length + rest c0 ≤ 1048578 := by have h9 := hg.rest; unfold rest; simp only [List.length_nil]; omega
 obtain ⟨kk, hk1, hk2, hk0⟩ : ∃ k : Nat, ((rowS one more b0 c0 []).2.2.1 = [] → k = 6) ∧ ((rowS one more b0 c0 []).2.2.1 ≠ [] → k = 7) ∧ 6 ≤ k := by
  by_cases h : (rowS one more b0 c0 []).2.2.1 = []
  ·exact ⟨6, fun _ => rfl, fun g => absurd h g, Nat.le_refl _⟩
  ·exact ⟨7, fun g => absurd g h, fun _ => rfl, Nat.le_succ _⟩
 refine qd1 c0bg kk (by simpa using hk0) (by simp) ?_
 generalize htg : rowS one more b0 c0 [] = tg at hk1 hk2 ⊢
 unfold rowS at htg
 repeat' (first | refine vs_ ?_ | ((first | refine vr_ ?_ | (refine cs_ ?_ ?_ <;> intro hc) | refine cj_ ?_ | fail) <;> (try refine ev_ ?_)) | with_reducible exact ti_)
 refine qbm (S := Bool × Nat × K × List N) (fun s => s.2.2.1.good ∧ rest s.2.2.1 ≤ n ∧ rowF one more s.2.1 s.1 s.2.2.1 s.2.2.2 = tg ∧ rest s.2.2.1 < s.2.1 ∧ s.2.2.2.length + rest s.2.2.1 ≤ 1048578) (qya g1 g2 x) (fun s => rest s.2.2.1) ?_ ?_
 ·refine q8 (b0, rest c0 + 1, c0, []) [0, 1, 2, 3, 4, 5] ⟨hg, hr, htg, Nat.lt_succ_self _, hl⟩ rfl (by simp) ?_ ?_ ?_
  all_goals simp only [qya, encs, qr, qt]
  all_goals (refine ev_ ?_; (try with_reducible exact ti_))
 ·rintro ⟨fl, fu, d, acc⟩ ⟨i1, i2, i3, i4, i5⟩
  simp only at i1 i2 i3 i4 i5
  obtain ⟨fu, rfl⟩ : ∃ k, fu = k + 1 := ⟨fu - 1, by omega⟩
  rw [rowF] at i3
  have hcap : qdq (acc.length + 1) 64 := capN (by omega)
  have hmore := h2 fl d i1 i2
  have g1 := (hm fl d).1 i1
  have r1 := (hm fl d).2.1
  have hone := h1 (more fl d).1 (more fl d).2.1 g1 (by omega)
  have g2 := (ho.m (more fl d).2.1).1 g1
  have r2 := (ho.m (more fl d).2.1).2.1
  have hlt := ho.l (more fl d).2.1
  unfold qya
  generalize more fl d = M at *
  obtain ⟨fl', d', ans⟩ := M
  simp only at hmore g1 r1 hone g2 r2 hlt i3
  generalize one d' = r at *
  obtain ⟨e, y, ok⟩ := r
  simp only at hone g2 r2 hlt i3
  cases ans with
  | false =>
    rw [if_neg (by simp)] at i3
    subst i3
    by_cases h0 : acc = []
    ·subst h0
     obtain rfl := hk1 rfl
     simp only [encs, qr, qt]
     repeat' (first | refine vs_ ?_ | ((first | refine vr_ ?_ | refine qi9 hmore ?_ | (refine cs_ ?_ ?_ <;> intro hc) | refine cj_ ?_ | fail) <;> (try refine ev_ ?_)) | with_reducible exact ti_)
     all_goals first | exact ⟨rfl, rfl⟩
    ·have hne := q9 h0
     obtain rfl := hk2 h0
     simp only [qbd hne, qbc hne, qx]
     repeat' (first | refine vs_ ?_ | ((first | refine vr_ ?_ | refine qi9 hmore ?_ | (refine cs_ ?_ ?_ <;> intro hc) | refine cj_ ?_ | fail) <;> (try refine ev_ ?_)) | with_reducible exact ti_)
     all_goals first | exact ⟨rfl, rfl⟩
  | true =>
    rw [if_pos rfl] at i3
    cases ok with
    | false =>
      rw [if_neg (by simp)] at i3
      subst i3
      by_cases h0 : acc = []
      ·subst h0
       obtain rfl := hk1 rfl
       simp only [encs, qr, qt]
       repeat' (first | refine vs_ ?_ | ((first | refine vr_ ?_ | refine qi9 hmore ?_ | refine qp1 hone ?_ | (refine cs_ ?_ ?_ <;> intro hc) | refine cj_ ?_ | fail) <;> (try refine ev_ ?_)) | with_reducible exact ti_)
       all_goals first | exact ⟨rfl, rfl⟩
      ·have hne := q9 h0
       obtain rfl := hk2 h0
       simp only [qbd hne, qbc hne, qx]
       repeat' (first | refine vs_ ?_ | ((first | refine vr_ ?_ | refine qi9 hmore ?_ | refine qp1 hone ?_ | (refine cs_ ?_ ?_ <;> intro hc) | refine cj_ ?_ | fail) <;> (try refine ev_ ?_)) | with_reducible exact ti_)
       all_goals first | exact ⟨rfl, rfl⟩
    | true =>
      have hlt := hlt rfl
      rw [if_pos rfl] at i3
      have hne3 : ¬ acc ++ [y] = [] := by simp
      have hlen : (acc ++ [y]).length = acc.length + 1 := by simp
      by_cases h0 : acc = []
      ·subst h0
       simp only [encs, qr, qt]
       repeat' (first | refine vs_ ?_ | ((first | refine vr_ ?_ | refine qi9 hmore ?_ | refine qp1 hone ?_ | (refine cs_ ?_ ?_ <;> intro hc) | refine cj_ ?_ | fail) <;> (try refine ev_ ?_)) | with_reducible exact ti_)
       refine q8 (fl', fu, e, [] ++ [y]) [0, 1, 2, 3, 4, 5, 7] ⟨⟨g2, by simp only; omega, i3, by simp only; omega, by simp only [hlen]; omega⟩, by simp only; omega⟩ rfl (by simp) ?_ ?_ ?_
       all_goals simp only [qya, qbc (q9 hne3), qbd (q9 hne3), qx, hlen, ← qe]
       all_goals (refine ev_ ?_; (try with_reducible exact ti_))
       all_goals first | (rw [qe]; exact qo _ _) | exact ⟨rfl, rfl⟩ | rfl | (rw [qe, qo, qbb]; exact ⟨rfl, rfl⟩)
      ·have hne := q9 h0
       simp only [qbd hne, qbc hne, qx]
       repeat' (first | refine vs_ ?_ | ((first | refine vr_ ?_ | refine qi9 hmore ?_ | refine qp1 hone ?_ | (refine cs_ ?_ ?_ <;> intro hc) | refine cj_ ?_ | fail) <;> (try refine ev_ ?_)) | with_reducible exact ti_)
       refine q8 (fl', fu, e, acc ++ [y]) [0, 1, 2, 3, 4, 5, 8] ⟨⟨g2, by simp only; omega, i3, by simp only; omega, by simp only [hlen]; omega⟩, by simp only; omega⟩ rfl (by simp) ?_ ?_ ?_
       all_goals simp only [qya, qbc (q9 hne3), qbd (q9 hne3), qx, hlen, ← qe]
       all_goals (refine ev_ ?_; (try with_reducible exact ti_))
       all_goals first | (rw [qe]; exact qo _ _) | exact ⟨rfl, rfl⟩ | rfl | (rw [qe, qo, qbb]; exact ⟨rfl, rfl⟩)

def frB (x : List UInt8) (kd : Int) (b : Bool) (c : K) : List Ent := [curE c, .blk [.ptr 0 0], .blk [.ptr 0 0], .blk [.str x], .blk [.bool b], .blk [.fn 34 [] [.ptr 4 0, .ptr 2 0, .ptr 3 0]], .blk [.int .i64 kd]]
theorem q24 {x : List UInt8} {kd : Int} (b : Bool) (c : K) : (frB x kd b c).all (Ent.bd 7) = true := by
 simp only [frB, List.all_cons, List.all_nil, qbi, Bool.true_and, Bool.and_true]; rfl
theorem qp6 {g : FuncId} {x : List UInt8} {kd : Int} {b : Bool} {c c' : K} {r : N × Bool} {L : List Ent} {Q : List Ent → VO → Prop} (h : VCalls Tryz.prog g [curE c, .blk [.ptr 0 0], .blk [.ptr 0 0], .blk [.str x], .blk [.bool b], .blk [.fn 34 [] [.ptr 4 0, .ptr 2 0, .ptr 3 0]], .blk [.int .i64 kd]] [.ptr 1 0, .ptr 6 0] fun H' o => H' = (frB x kd b c') ∧ o = .val (resB r)) (hq : Q (curE c' :: .blk [.ptr 0 0] :: .blk [.ptr 0 0] :: .blk [.str x] :: .blk [.bool b] :: .blk [.fn 34 [] [.ptr 4 0, .ptr 2 0, .ptr 3 0]] :: .blk [.int .i64 kd] :: L) (.val (resB r))) :
 VApp Tryz.prog (curE c :: .blk [.ptr 0 0] :: .blk [.ptr 0 0] :: .blk [.str x] :: .blk [.bool b] :: .blk [.fn 34 [] [.ptr 4 0, .ptr 2 0, .ptr 3 0]] :: .blk [.int .i64 kd] :: L) (.fn g [] [.ptr 1 0, .ptr 6 0]) [] Q :=
 qcd (first := []) (caps := [.ptr 1 0, .ptr 6 0]) (by
  simp only [List.nil_append]
  refine qdj (H0 := [curE c, .blk [.ptr 0 0], .blk [.ptr 0 0], .blk [.str x], .blk [.bool b], .blk [.fn 34 [] [.ptr 4 0, .ptr 2 0, .ptr 3 0]], .blk [.int .i64 kd]]) (L := L) h (q24 (x := x) (kd := kd) b c) rfl ?_
  rintro H1 o ⟨rfl, rfl⟩
  exact ⟨rfl, q24 _ _, qol _ _, hq⟩)
theorem qjb {g : FuncId} {x : List UInt8} {kd : Int} {b b' a : Bool} {c c' : K} {L : List Ent} {Q : List Ent → VO → Prop} (h : VCalls Tryz.prog g [curE c, .blk [.ptr 0 0], .blk [.ptr 0 0], .blk [.str x], .blk [.bool b], .blk [.fn 34 [] [.ptr 4 0, .ptr 2 0, .ptr 3 0]], .blk [.int .i64 kd]] [.ptr 1 0, .ptr 5 0] fun H' o => H' = (frB x kd b' c') ∧ o = .val (.bool a)) (hq : Q (curE c' :: .blk [.ptr 0 0] :: .blk [.ptr 0 0] :: .blk [.str x] :: .blk [.bool b'] :: .blk [.fn 34 [] [.ptr 4 0, .ptr 2 0, .ptr 3 0]] :: .blk [.int .i64 kd] :: L) (.val (.bool a))) :
 VApp Tryz.prog (curE c :: .blk [.ptr 0 0] :: .blk [.ptr 0 0] :: .blk [.str x] :: .blk [.bool b] :: .blk [.fn 34 [] [.ptr 4 0, .ptr 2 0, .ptr 3 0]] :: .blk [.int .i64 kd] :: L) (.fn g [] [.ptr 1 0, .ptr 5 0]) [] Q :=
 qcd (first := []) (caps := [.ptr 1 0, .ptr 5 0]) (by
  simp only [List.nil_append]
  refine qdj (H0 := [curE c, .blk [.ptr 0 0], .blk [.ptr 0 0], .blk [.str x], .blk [.bool b], .blk [.fn 34 [] [.ptr 4 0, .ptr 2 0, .ptr 3 0]], .blk [.int .i64 kd]]) (L := L) h (q24 (x := x) (kd := kd) b c) rfl ?_
  rintro H1 o ⟨rfl, rfl⟩
  exact ⟨rfl, q24 _ _, rfl, hq⟩)
def RovB (one : K → R3) (more : MF) (g1 g2 : FuncId) (x : List UInt8) (kd : Int) (b : Bool) (c : K) (a0 : List N) : Prop :=
 VCalls Tryz.prog 15 (curE c :: .blk [.ptr 0 0] :: .blk [.ptr 0 0] :: .blk [.str x] :: .blk [.bool b] :: .blk [.fn 34 [] [.ptr 4 0, .ptr 2 0, .ptr 3 0]] :: .blk [.int .i64 kd] :: [.app 5 (encs a0)]) [.row 7 a0.length, .fn g1 [] [.ptr 1 0, .ptr 6 0], .fn g2 [] [.ptr 1 0, .ptr 5 0]] fun H' o =>
  ((rowS one more b c a0).2.2.1 = a0 → H' = curE (rowS one more b c a0).2.1 :: .blk [.ptr 0 0] :: .blk [.ptr 0 0] :: .blk [.str x] :: .blk [.bool (rowS one more b c a0).1] :: .blk [.fn 34 [] [.ptr 4 0, .ptr 2 0, .ptr 3 0]] :: .blk [.int .i64 kd] :: [.app 5 (encs a0)] ∧ o = .val (.tup [.row 7 a0.length, .bool (rowS one more b c a0).2.2.2])) ∧
  ((rowS one more b c a0).2.2.1 ≠ a0 → H' = curE (rowS one more b c a0).2.1 :: .blk [.ptr 0 0] :: .blk [.ptr 0 0] :: .blk [.str x] :: .blk [.bool (rowS one more b c a0).1] :: .blk [.fn 34 [] [.ptr 4 0, .ptr 2 0, .ptr 3 0]] :: .blk [.int .i64 kd] :: .dead :: [.app 5 (encs (rowS one more b c a0).2.2.1)] ∧ o = .val (.tup [.row 8 (rowS one more b c a0).2.2.1.length, .bool (rowS one more b c a0).2.2.2]))
def qxi (g1 g2 : FuncId) (x : List UInt8) (kd : Int) (a0 : List N) (s : Bool × Nat × K × List N) : AF × List Ent :=
 if s.2.2.2.length = a0.length then (⟨[(0, .row 7 a0.length), (1, .fn g1 [] [.ptr 1 0, .ptr 6 0]), (2, .fn g2 [] [.ptr 1 0, .ptr 5 0])], []⟩, curE s.2.2.1 :: .blk [.ptr 0 0] :: .blk [.ptr 0 0] :: .blk [.str x] :: .blk [.bool s.1] :: .blk [.fn 34 [] [.ptr 4 0, .ptr 2 0, .ptr 3 0]] :: .blk [.int .i64 kd] :: [.app 5 (encs a0)])
 else (⟨[(0, .row 8 s.2.2.2.length), (1, .fn g1 [] [.ptr 1 0, .ptr 6 0]), (2, .fn g2 [] [.ptr 1 0, .ptr 5 0])], []⟩, curE s.2.2.1 :: .blk [.ptr 0 0] :: .blk [.ptr 0 0] :: .blk [.str x] :: .blk [.bool s.1] :: .blk [.fn 34 [] [.ptr 4 0, .ptr 2 0, .ptr 3 0]] :: .blk [.int .i64 kd] :: .dead :: [.app 5 (encs s.2.2.2)])
theorem qbbz {one : K → R3} {more : MF} {g1 g2 : FuncId} {x : List UInt8} {kd : Int} {n : Nat} (ho : Goes one) (hm : MonM more)
 (h1 : ∀ b c, c.good → rest c ≤ n → VCalls Tryz.prog g1 [curE c, .blk [.ptr 0 0], .blk [.ptr 0 0], .blk [.str x], .blk [.bool b], .blk [.fn 34 [] [.ptr 4 0, .ptr 2 0, .ptr 3 0]], .blk [.int .i64 kd]] [.ptr 1 0, .ptr 6 0] fun H' o => H' = (frB x kd b (one c).1) ∧ o = .val (resB (one c).2))
 (h2 : ∀ b c, c.good → rest c ≤ n → VCalls Tryz.prog g2 [curE c, .blk [.ptr 0 0], .blk [.ptr 0 0], .blk [.str x], .blk [.bool b], .blk [.fn 34 [] [.ptr 4 0, .ptr 2 0, .ptr 3 0]], .blk [.int .i64 kd]] [.ptr 1 0, .ptr 5 0] fun H' o => H' = (frB x kd (more b c).1 (more b c).2.1) ∧ o = .val (.bool (more b c).2.2))
 (b0 : Bool) (c0 : K) (a0 : List N) (hg : c0.good) (hr : rest c0 ≤ n) (hl : a0.length + rest c0 ≤ 1048578) : RovB one more g1 g2 x kd b0 c0 a0 := by
 unfold RovB
 obtain ⟨kk, hk1, hk2, hk0⟩ : ∃ k : Nat, ((rowS one more b0 c0 a0).2.2.1 = a0 → k = 8) ∧ ((rowS one more b0 c0 a0).2.2.1 ≠ a0 → k = 9) ∧ 8 ≤ k := by
  by_cases h : (rowS one more b0 c0 a0).2.2.1 = a0
  ·exact ⟨8, fun _ => rfl, fun g => absurd h g, Nat.le_refl _⟩
  ·exact ⟨9, fun g => absurd g h, fun _ => rfl, Nat.le_succ _⟩
 refine qd1 c0bg kk (by simpa using hk0) (by simp) ?_
 generalize htg : rowS one more b0 c0 a0 = tg at hk1 hk2 ⊢
 unfold rowS at htg
 repeat' (first | refine vs_ ?_ | ((first | refine vr_ ?_ | (refine cs_ ?_ ?_ <;> intro hc) | refine cj_ ?_ | fail) <;> (try refine ev_ ?_)) | with_reducible exact ti_)
 refine qbm (S := Bool × Nat × K × List N) (fun s => s.2.2.1.good ∧ rest s.2.2.1 ≤ n ∧ rowF one more s.2.1 s.1 s.2.2.1 s.2.2.2 = tg ∧ rest s.2.2.1 < s.2.1 ∧ s.2.2.2.length + rest s.2.2.1 ≤ 1048578 ∧ a0.length ≤ s.2.2.2.length ∧ (s.2.2.2.length = a0.length → s.2.2.2 = a0)) (qxi g1 g2 x kd a0) (fun s => rest s.2.2.1) ?_ ?_
 ·refine q8 (b0, rest c0 + 1, c0, a0) [0, 1, 2, 3, 4, 5, 6, 7] ⟨hg, hr, htg, Nat.lt_succ_self _, hl, Nat.le_refl _, fun _ => rfl⟩ rfl (by simp) ?_ ?_ ?_
  all_goals simp only [qxi, if_true]
  all_goals (refine ev_ ?_; (try with_reducible exact ti_))
  all_goals first | exact qo _ _ | exact ⟨rfl, rfl⟩ | rfl | (rw [qo, qbb]; exact ⟨rfl, rfl⟩)
 ·rintro ⟨fl, fu, d, acc⟩ ⟨i1, i2, i3, i4, i5, i6, i7⟩
  simp only at i6 i7
  simp only at i1 i2 i3 i4 i5
  obtain ⟨fu, rfl⟩ : ∃ k, fu = k + 1 := ⟨fu - 1, by omega⟩
  rw [rowF] at i3
  have hcap : qdq (acc.length + 1) 64 := capN (by omega)
  have hmore := h2 fl d i1 i2
  have g1 := (hm fl d).1 i1
  have r1 := (hm fl d).2.1
  have hone := h1 (more fl d).1 (more fl d).2.1 g1 (by omega)
  have g2 := (ho.m (more fl d).2.1).1 g1
  have r2 := (ho.m (more fl d).2.1).2.1
  have hlt := ho.l (more fl d).2.1
  unfold qxi
  generalize more fl d = M at *
  obtain ⟨fl', d', ans⟩ := M
  simp only at hmore g1 r1 hone g2 r2 hlt i3
  generalize one d' = r at *
  obtain ⟨e, y, ok⟩ := r
  simp only at hone g2 r2 hlt i3
  have hneA : ¬ acc.length + 1 = a0.length := by omega
  have hlen : (acc ++ [y]).length = acc.length + 1 := by simp
  by_cases h0 : acc = a0
  ·have h0l : acc.length = a0.length := by rw [h0]
   simp only [if_pos h0l]
   cases ans with
   | false =>
     rw [if_neg (by simp)] at i3
     subst i3
     obtain rfl := hk1 h0
     repeat' (first | refine vs_ ?_ | ((first | refine vr_ ?_ | refine qjb hmore ?_ | (refine cs_ ?_ ?_ <;> intro hc) | refine cj_ ?_ | fail) <;> (try refine ev_ ?_)) | with_reducible exact ti_)
     all_goals exact ⟨fun _ => by first | trivial | exact ⟨rfl, rfl⟩, fun g => absurd h0 g⟩
   | true =>
     rw [if_pos rfl] at i3
     cases ok with
     | false =>
       rw [if_neg (by simp)] at i3
       subst i3
       obtain rfl := hk1 h0
       repeat' (first | refine vs_ ?_ | ((first | refine vr_ ?_ | refine qjb hmore ?_ | refine qp6 hone ?_ | (refine cs_ ?_ ?_ <;> intro hc) | refine cj_ ?_ | fail) <;> (try refine ev_ ?_)) | with_reducible exact ti_)
       all_goals exact ⟨fun _ => by first | trivial | exact ⟨rfl, rfl⟩, fun g => absurd h0 g⟩
     | true =>
       have hlt := hlt rfl
       rw [if_pos rfl] at i3
       subst h0
       repeat' (first | refine vs_ ?_ | ((first | refine vr_ ?_ | refine qjb hmore ?_ | refine qp6 hone ?_ | (refine cs_ ?_ ?_ <;> intro hc) | refine cj_ ?_ | fail) <;> (try refine ev_ ?_)) | with_reducible exact ti_)
       refine q8 (fl', fu, e, acc ++ [y]) [0, 1, 2, 3, 4, 5, 6, 7, 9] ⟨⟨g2, by simp only; omega, i3, by simp only; omega, by simp only [hlen]; omega, by simp only [hlen]; omega, fun h => by simp only [hlen] at h; omega⟩, by simp only; omega⟩ rfl (by simp) ?_ ?_ ?_
       all_goals simp only [qxi, hlen, if_neg hneA, ← qe]
       all_goals (refine ev_ ?_; (try with_reducible exact ti_))
       all_goals first | (rw [qe]; exact qo _ _) | exact ⟨rfl, rfl⟩ | rfl | (rw [qe, qo, qbb]; exact ⟨rfl, rfl⟩)
  ·have h0l : ¬ acc.length = a0.length := fun h => h0 (i7 h)
   simp only [if_neg h0l]
   cases ans with
   | false =>
     rw [if_neg (by simp)] at i3
     subst i3
     obtain rfl := hk2 h0
     repeat' (first | refine vs_ ?_ | ((first | refine vr_ ?_ | refine qjb hmore ?_ | (refine cs_ ?_ ?_ <;> intro hc) | refine cj_ ?_ | fail) <;> (try refine ev_ ?_)) | with_reducible exact ti_)
     all_goals exact ⟨fun g => absurd g h0, fun _ => by first | trivial | exact ⟨rfl, rfl⟩⟩
   | true =>
     rw [if_pos rfl] at i3
     cases ok with
     | false =>
       rw [if_neg (by simp)] at i3
       subst i3
       obtain rfl := hk2 h0
       repeat' (first | refine vs_ ?_ | ((first | refine vr_ ?_ | refine qjb hmore ?_ | refine qp6 hone ?_ | (refine cs_ ?_ ?_ <;> intro hc) | refine cj_ ?_ | fail) <;> (try refine ev_ ?_)) | with_reducible exact ti_)
       all_goals exact ⟨fun g => absurd g h0, fun _ => by first | trivial | exact ⟨rfl, rfl⟩⟩
     | true =>
       have hlt := hlt rfl
       rw [if_pos rfl] at i3
       repeat' (first | refine vs_ ?_ | ((first | refine vr_ ?_ | refine qjb hmore ?_ | refine qp6 hone ?_ | (refine cs_ ?_ ?_ <;> intro hc) | refine cj_ ?_ | fail) <;> (try refine ev_ ?_)) | with_reducible exact ti_)
       refine q8 (fl', fu, e, acc ++ [y]) [0, 1, 2, 3, 4, 5, 6, 7, 10] ⟨⟨g2, by simp only; omega, i3, by simp only; omega, by simp only [hlen]; omega, by simp only [hlen]; omega, fun h => by simp only [hlen] at h; omega⟩, by simp only; omega⟩ rfl (by simp) ?_ ?_ ?_
       all_goals simp only [qxi, hlen, if_neg hneA, ← qe]
       all_goals (refine ev_ ?_; (try with_reducible exact ti_))
       all_goals first | (rw [qe]; exact qo _ _) | exact ⟨rfl, rfl⟩ | rfl | (rw [qe, qo, qbb]; exact ⟨rfl, rfl⟩)

set_option maxRecDepth 4000

theorem qpg (σ : Nat → Nat) (i o : Nat) : (Ent.blk [.ptr i o]).ren σ = .blk [.ptr (σ i) o] := rfl
theorem qs0 (σ : Nat → Nat) (x : List UInt8) : (Ent.blk [.str x]).ren σ = .blk [.str x] := rfl
theorem qlc (σ : Nat → Nat) (b : Bool) : (Ent.blk [.bool b]).ren σ = .blk [.bool b] := rfl
theorem qciz (σ : Nat → Nat) (n : Int) : (Ent.blk [.int .i64 n]).ren σ = .blk [.int .i64 n] := rfl
theorem qsg (σ : Nat → Nat) (l : List N) : (Ent.app 5 (encs l)).ren σ = .app 5 (encs l) := by rw [Ent.ren, qbb]
theorem e_fn (σ : Nat → Nat) (f : FuncId) (i j k : Nat) : (Ent.blk [.fn f [] [.ptr i 0, .ptr j 0, .ptr k 0]]).ren σ = .blk [.fn f [] [.ptr (σ i) 0, .ptr (σ j) 0, .ptr (σ k) 0]] := rfl
theorem qbhn (c : K) (x : List UInt8) : VCalls Tryz.prog 14 [curE c] [.ptr 0 0, .str x] fun H' o => H' = [curE c, .blk [.ptr 0 0], .blk [.str x], .blk [.bool false]] ∧ o = .val (.fn 34 [] [.ptr 3 0, .ptr 1 0, .ptr 2 0]) := by
 refine qd1 c0y 4 (by simp) (by simp) ?_
 repeat' (first | refine vs_ ?_ | ((first | refine vr_ ?_ | (refine cs_ ?_ ?_ <;> intro hc) | refine cj_ ?_ | fail) <;> (try refine ev_ ?_)) | with_reducible exact ti_)
 all_goals exact ⟨rfl, rfl⟩
theorem qfe {c : K} {x : List UInt8} {L : List Ent} {Q : List Ent → VO → Prop} (hq : Q (curE c :: (L ++ [.blk [.ptr 0 0], .blk [.str x], .blk [.bool false]])) (.val (.fn 34 [] [.ptr (L.length + 3) 0, .ptr (L.length + 1) 0, .ptr (L.length + 2) 0]))) :
 VApp Tryz.prog (curE c :: L) (.fn 14 [] []) [.ptr 0 0, .str x] Q :=
 qcd (first := []) (caps := []) (by
  simp only [List.nil_append, List.append_nil]
  refine qc0 (H0 := [curE c]) (args0 := [.ptr 0 0, .str x]) [0] (qbhn c x) (by simp) ?_ rfl rfl ?_
  ·(refine ev_ ?_; (try with_reducible exact ti_))
   omega
  rintro H1 o ⟨rfl, rfl⟩
  have h3 : ∀ k, L.length + 1 + k = L.length + (k + 1) := fun k => by omega
  simpa [qhe, qbw, sg', qpg, qs0, qlc, AV.ren, AV.rens, VO.ren, qc9, Nat.add_assoc] using hq)
theorem qzm (x : List UInt8) (b : Bool) (c : K) (hg : c.good) : VCalls Tryz.prog 34 [curE c, .blk [.ptr 0 0], .blk [.str x], .blk [.bool b]] [.ptr 3 0, .ptr 1 0, .ptr 2 0] fun H' o => H' = [curE (qb5 x b c).2.1, .blk [.ptr 0 0], .blk [.str x], .blk [.bool (qb5 x b c).1]] ∧ o = .val (.bool (qb5 x b c).2.2) := by
 refine qp c0z 4 (by simp) (by simp) ?_
 unfold qb5
 cases b with
 | false =>
   repeat' (first | refine vs_ ?_ | ((first | refine vr_ ?_ | (refine cs_ ?_ ?_ <;> intro hc) | refine cj_ ?_ | fail) <;> (try refine ev_ ?_)) | with_reducible exact ti_)
   all_goals exact ⟨rfl, rfl⟩
 | true =>
   repeat' (first | refine vs_ ?_ | ((first | refine vr_ ?_ | refine qes hg.ok ?_ | (refine cs_ ?_ ?_ <;> intro hc) | refine cj_ ?_ | fail) <;> (try refine ev_ ?_)) | with_reducible exact ti_)
   all_goals exact ⟨rfl, rfl⟩
theorem qjf {x : List UInt8} {b : Bool} {c : K} {B : Ent} {L : List Ent} {Q : List Ent → VO → Prop} (hg : c.good) (hq : Q (curE (qb5 x b c).2.1 :: B :: .blk [.ptr 0 0] :: .blk [.str x] :: .blk [.bool (qb5 x b c).1] :: L) (.val (.bool (qb5 x b c).2.2))) :
 VApp Tryz.prog (curE c :: B :: .blk [.ptr 0 0] :: .blk [.str x] :: .blk [.bool b] :: L) (.fn 34 [] [.ptr 4 0, .ptr 2 0, .ptr 3 0]) [] Q :=
 qcd (first := []) (caps := [.ptr 4 0, .ptr 2 0, .ptr 3 0]) (by
  simp only [List.nil_append]
  refine qc0 (H0 := [curE c, .blk [.ptr 0 0], .blk [.str x], .blk [.bool b]]) (args0 := [.ptr 3 0, .ptr 1 0, .ptr 2 0]) [0, 2, 3, 4] (qzm x b c hg) (by simp) ?_ rfl rfl ?_
  ·(refine ev_ ?_; (try with_reducible exact ti_))
   omega
  rintro H1 o ⟨rfl, rfl⟩
  simpa [qhe, qbw, sg', qpg, qs0, qlc, AV.ren, AV.rens, VO.ren, qc9] using hq)
theorem qqy (c : K) (hg : c.good) : qce Tryz.prog 63 (curE c) (curE (qgh c).1) [.ptr 0 0] (resP (qgh c).2) := qi8 (qcy _) (qy3 (rest c + 2)) c hg (by omega)
theorem qxd (c : K) (hg : c.good) : qce Tryz.prog 38 (curE c) (curE (qh4 c).1) [.ptr 0 0] (resP (qh4 c).2) := qt3 (qce3 (rest c + 2)) c hg (by omega)
theorem qccg (c : K) : qce Tryz.prog 109 (curE c) (curE c) [.ptr 0 0] (.bool (begT c)) := by
 refine qp c0ba 1 (by simp) (by simp) ?_
 repeat' (first | refine vs_ ?_ | ((first | refine vr_ ?_ | refine qb6 ?_ | refine a_Is ?_ | (refine cs_ ?_ ?_ <;> intro hc) | refine cj_ ?_ | fail) <;> (try refine ev_ ?_)) | with_reducible exact ti_)
 all_goals (unfold begT; simp_all)
theorem qckw {c : K} {L : List Ent} {Q : List Ent → VO → Prop} (hq : Q (curE c :: L) (.val (.bool (begT c)))) : VApp Tryz.prog (curE c :: L) (.fn 109 [] []) [.ptr 0 0] Q := qb9 (qccg c) (qbi _ _) (qbi _ _) rfl rfl fun _ => hq
theorem qbn7 (c : K) (hg : c.good) : VCalls Tryz.prog 107 [curE c, .blk [.ptr 0 0]] [.ptr 1 0] fun H' o => H' = frA false (qde c).1 ∧ o = .val (resB (qde c).2) := by
 refine qp c0bb 2 (by simp) (by simp) ?_
 unfold qde ofO frA
 repeat' (first | refine vs_ ?_ | ((first | refine vr_ ?_ | refine qcs (qqy c hg) rfl ?_ | (refine cs_ ?_ ?_ <;> intro hc) | refine cj_ ?_ | fail) <;> (try refine ev_ ?_)) | with_reducible exact ti_)
 all_goals exact ⟨rfl, rfl⟩
theorem qcar (c : K) : VCalls Tryz.prog 108 [curE c, .blk [.ptr 0 0]] [.ptr 1 0] fun H' o => H' = frA false c ∧ o = .val (.bool (begT c)) := by
 refine qp c0bc 2 (by simp) (by simp) ?_
 unfold frA
 repeat' (first | refine vs_ ?_ | ((first | refine vr_ ?_ | refine qckw ?_ | (refine cs_ ?_ ?_ <;> intro hc) | refine cj_ ?_ | fail) <;> (try refine ev_ ?_)) | with_reducible exact ti_)
 all_goals exact ⟨rfl, rfl⟩
theorem qbk0 (c : K) (hg : c.good) : VCalls Tryz.prog 62 [curE c, .blk [.ptr 0 0]] [.ptr 1 0] fun H' o => H' = frA false (qde c).1 ∧ o = .val (resB (qde c).2) := by
 refine qp c0bd 2 (by simp) (by simp) ?_
 unfold qde ofO frA
 repeat' (first | refine vs_ ?_ | ((first | refine vr_ ?_ | refine qcs (qqy c hg) rfl ?_ | (refine cs_ ?_ ?_ <;> intro hc) | refine cj_ ?_ | fail) <;> (try refine ev_ ?_)) | with_reducible exact ti_)
 all_goals exact ⟨rfl, rfl⟩
theorem qbf5 (c : K) : VCalls Tryz.prog 64 [curE c, .blk [.ptr 0 0]] [.ptr 1 0] fun H' o => H' = frA false c ∧ o = .val (.bool (qd8 c)) := by
 refine qp c0be 2 (by simp) (by simp) ?_
 unfold qd8 frA
 repeat' (first | refine vs_ ?_ | ((first | refine vr_ ?_ | refine qb6 ?_ | (refine cs_ ?_ ?_ <;> intro hc) | refine cj_ ?_ | fail) <;> (try refine ev_ ?_)) | with_reducible exact ti_)
 all_goals exact ⟨rfl, rfl⟩
theorem qbhw (c : K) (hg : c.good) : RowA qde (qfw begT) 107 108 false c := qz2 goes_atom (monA _) (fun b c g _ => qbn7 c g) (fun b c g _ => qcar c) false c hg (Nat.le_refl _)
theorem q86 (c : K) (hg : c.good) : RowA qde (qfw qd8) 62 64 false c := qz2 goes_atom (monA _) (fun b c g _ => qbk0 c g) (fun b c g _ => qbf5 c) false c hg (Nat.le_refl _)
section
variable {one : K → R3} {more : MF} {g1 g2 : FuncId} {b : Bool} {c : K}
theorem qxl (h : RowA one more g1 g2 b c) (h0 : (rowS one more b c []).2.2.1 = []) {L : List Ent} {Q : List Ent → VO → Prop} (hq : Q (curE (rowS one more b c []).2.1 :: .blk [.ptr 0 0] :: L) (.val (.tup [.nils, .bool (rowS one more b c []).2.2.2]))) :
 VApp Tryz.prog (curE c :: .blk [.ptr 0 0] :: L) (.fn 15 [] []) [.nils, .fn g1 [] [.ptr 1 0], .fn g2 [] [.ptr 1 0]] Q :=
 qcd (first := []) (caps := []) (by
  simp only [List.nil_append, List.append_nil]
  refine qdj (H0 := [curE c, .blk [.ptr 0 0]]) (L := L) h (ql1 c) rfl ?_
  rintro H1 o ⟨rfl, rfl⟩
  rw [h0]
  exact ⟨rfl, ql1 _, rfl, hq⟩)
theorem qys (h : RowA one more g1 g2 b c) (h0 : (rowS one more b c []).2.2.1 ≠ []) {L : List Ent} {Q : List Ent → VO → Prop} (hq : Q (curE (rowS one more b c []).2.1 :: .blk [.ptr 0 0] :: (L ++ [.app 5 (encs (rowS one more b c []).2.2.1)])) (.val (.tup [.row (L.length + 2) (rowS one more b c []).2.2.1.length, .bool (rowS one more b c []).2.2.2]))) :
 VApp Tryz.prog (curE c :: .blk [.ptr 0 0] :: L) (.fn 15 [] []) [.nils, .fn g1 [] [.ptr 1 0], .fn g2 [] [.ptr 1 0]] Q :=
 qcd (first := []) (caps := []) (by
  simp only [List.nil_append, List.append_nil]
  refine qc0 (H0 := [curE c, .blk [.ptr 0 0]]) (args0 := [.nils, .fn g1 [] [.ptr 1 0], .fn g2 [] [.ptr 1 0]]) [0, 1] h (by simp) ?_ rfl rfl ?_
  ·(refine ev_ ?_; (try with_reducible exact ti_))
   omega
  rintro H1 o ⟨rfl, rfl⟩
  rw [qbc (q9 h0), qbd (q9 h0), qx]
  simpa [qhe, qbw, sg', qpg, qsg, AV.ren, AV.rens, VO.ren, qc9] using hq)
end
theorem qu3 (t : T) (l : List N) : AV.agg [.int .i64 34, .int .i64 t.pos, .int .i64 0, .str t.text, .sl 5 (encs l)] = enc (conN t l) := by simp only [conN, enc]
theorem qvx (t : T) : AV.agg [.int .i64 34, .int .i64 t.pos, .int .i64 0, .str t.text, .sl 5 []] = enc (conN t []) := qu3 t []
theorem qcgo (c : K) (hg : c.good) : qce Tryz.prog 67 (curE c) (curE (conK c).1) [.ptr 0 0] (resB (conK c).2) := by
 have g1 : (qn c 2).1.good := (qbf c 2).1 hg
 have hR := qbhw (qn c 2).1 g1
 have h0 := @qxl _ _ _ _ _ _ hR
 have h1 := @qys _ _ _ _ _ _ hR
 clear hR
 refine qp c0bf 1 (by simp) (by simp) ?_
 unfold conK
 generalize rowS qde (qfw begT) false (qn c 2).1 [] = r at *
 by_cases hk : (qn c 2).2 = true
 ·rw [if_pos hk]
  by_cases hl : r.2.2.1 = []
  ·repeat' (first | refine vs_ ?_ | ((first | refine vrr_ ?_ | fail) <;> (try simp only [hk, go_sem, ↓reduceIte])) | ((first | (refine cs_ ?_ ?_ <;> intro hc) | refine cj_ ?_ | fail | refine qdi hg.ok ?_ | refine h0 hl ?_) <;> (try refine ev_ ?_)) | with_reducible exact ti_)
   all_goals first | (rw [hl, qvx]; done) | (rw [hl, qvx]; rfl) | (rw [hl, qvx]; exact ⟨rfl, rfl⟩)
  ·repeat' (first | refine vs_ ?_ | ((first | refine vrr_ ?_ | fail) <;> (try simp only [hk, go_sem, ↓reduceIte])) | ((first | (refine cs_ ?_ ?_ <;> intro hc) | refine cj_ ?_ | fail | refine qdi hg.ok ?_ | refine h1 hl ?_) <;> (try refine ev_ ?_)) | with_reducible exact ti_)
   all_goals first | (rw [qu3]; done) | (rw [qu3]; rfl) | (rw [qu3]; exact ⟨rfl, rfl⟩)
 ·rw [if_neg hk]
  repeat' (first | refine vs_ ?_ | ((first | refine vr_ ?_ | fail) <;> (try simp only [hk, go_sem, ↓reduceIte])) | ((first | (refine cs_ ?_ ?_ <;> intro hc) | refine cj_ ?_ | fail | refine qdi hg.ok ?_) <;> (try refine ev_ ?_)) | with_reducible exact ti_)
  all_goals first | (rw [qdt]; done) | (rw [qdt]; rfl) | (rw [qdt]; exact ⟨rfl, rfl⟩)
set_option maxRecDepth 4000

theorem qclx {c : K} {L : List Ent} {Q : List Ent → VO → Prop} (hg : c.good) (hq : Q (curE (conK c).1 :: L) (.val (resB (conK c).2))) : VApp Tryz.prog (curE c :: L) (.fn 67 [] []) [.ptr 0 0] Q := ql4 (qcgo c hg) rfl hq
theorem q13 (x : List UInt8) (b : Bool) (c : K) (hg : c.good) : VCalls Tryz.prog 66 [curE c, .blk [.ptr 0 0], .blk [.ptr 0 0], .blk [.str x], .blk [.bool b]] [.ptr 1 0] fun H' o => H' = frD x b (conK c).1 ∧ o = .val (resB (conK c).2) := by
 refine qp c0w 5 (by simp) (by simp) ?_
 unfold frD
 repeat' (first | refine vs_ ?_ | ((first | refine vr_ ?_ | refine qclx hg ?_ | (refine cs_ ?_ ?_ <;> intro hc) | refine cj_ ?_ | fail) <;> (try refine ev_ ?_)) | with_reducible exact ti_)
 all_goals exact ⟨rfl, rfl⟩
theorem qt5 (x : List UInt8) (b : Bool) (c : K) (hg : c.good) : VCalls Tryz.prog 34 [curE c, .blk [.ptr 0 0], .blk [.ptr 0 0], .blk [.str x], .blk [.bool b]] [.ptr 4 0, .ptr 2 0, .ptr 3 0] fun H' o => H' = frD x (qb5 x b c).1 (qb5 x b c).2.1 ∧ o = .val (.bool (qb5 x b c).2.2) := by
 refine qc0 (H0 := [curE c, .blk [.ptr 0 0], .blk [.str x], .blk [.bool b]]) (args0 := [.ptr 3 0, .ptr 1 0, .ptr 2 0]) [0, 2, 3, 4] (qzm x b c hg) (by simp) ?_ rfl rfl ?_
 ·(refine ev_ ?_; (try with_reducible exact ti_))
 rintro H1 o ⟨rfl, rfl⟩
 simp [frD, qhe, qbw, sg', qpg, qs0, qlc, AV.ren, AV.rens, VO.ren, qc9]
theorem q7d (c : K) (hg : c.good) : RowD conK (qb5 [124]) 66 34 [124] false c :=
 qbb8 goes_con (monF _) (fun b c g _ => q13 _ b c g) (fun b c g _ => qt5 _ b c g) false c hg (Nat.le_refl _)
theorem q75 (c : K) (a0 : List N) (hg : c.good) (hl : a0.length + rest c ≤ 1048578) : RovD conK (qb5 [124]) 66 34 [124] false c a0 :=
 q98 goes_con (monF _) (fun b c g _ => q13 _ b c g) (fun b c g _ => qt5 _ b c g) false c a0 hg (Nat.le_refl _) hl
section
variable {one : K → R3} {more : MF} {g : FuncId} {x : List UInt8} {b : Bool} {c : K} {e2 e3 e4 : Ent} {Q : List Ent → VO → Prop}
theorem qbbg (h : RowD one more g 34 x b c) (h0 : (rowS one more b c []).2.2.1 = []) (hq : Q [curE (rowS one more b c []).2.1, .blk [.ptr 0 0], e2, e3, e4, .blk [.ptr 0 0], .blk [.str x], .blk [.bool (rowS one more b c []).1]] (.val (.tup [.nils, .bool (rowS one more b c []).2.2.2]))) :
 VApp Tryz.prog [curE c, .blk [.ptr 0 0], e2, e3, e4, .blk [.ptr 0 0], .blk [.str x], .blk [.bool b]] (.fn 15 [] []) [.nils, .fn g [] [.ptr 1 0], .fn 34 [] [.ptr 7 0, .ptr 5 0, .ptr 6 0]] Q :=
 qcd (first := []) (caps := []) (by
  simp only [List.nil_append, List.append_nil]
  refine qc0 (H0 := [curE c, .blk [.ptr 0 0], .blk [.ptr 0 0], .blk [.str x], .blk [.bool b]]) (args0 := [.nils, .fn g [] [.ptr 1 0], .fn 34 [] [.ptr 4 0, .ptr 2 0, .ptr 3 0]]) [0, 1, 5, 6, 7] h (by simp) ?_ rfl rfl ?_
  ·(refine ev_ ?_; (try with_reducible exact ti_))
  rintro H1 o ⟨rfl, rfl⟩
  rw [h0]
  simpa [encs, qt, qr, qhe, qbw, sg', qpg, qs0, qlc, AV.ren, AV.rens, VO.ren, qc9] using hq)
theorem q8m (h : RowD one more g 34 x b c) (h0 : (rowS one more b c []).2.2.1 ≠ []) (hq : Q [curE (rowS one more b c []).2.1, .blk [.ptr 0 0], e2, e3, e4, .blk [.ptr 0 0], .blk [.str x], .blk [.bool (rowS one more b c []).1], .app 5 (encs (rowS one more b c []).2.2.1)] (.val (.tup [.row 8 (rowS one more b c []).2.2.1.length, .bool (rowS one more b c []).2.2.2]))) :
 VApp Tryz.prog [curE c, .blk [.ptr 0 0], e2, e3, e4, .blk [.ptr 0 0], .blk [.str x], .blk [.bool b]] (.fn 15 [] []) [.nils, .fn g [] [.ptr 1 0], .fn 34 [] [.ptr 7 0, .ptr 5 0, .ptr 6 0]] Q :=
 qcd (first := []) (caps := []) (by
  simp only [List.nil_append, List.append_nil]
  refine qc0 (H0 := [curE c, .blk [.ptr 0 0], .blk [.ptr 0 0], .blk [.str x], .blk [.bool b]]) (args0 := [.nils, .fn g [] [.ptr 1 0], .fn 34 [] [.ptr 4 0, .ptr 2 0, .ptr 3 0]]) [0, 1, 5, 6, 7] h (by simp) ?_ rfl rfl ?_
  ·(refine ev_ ?_; (try with_reducible exact ti_))
  rintro H1 o ⟨rfl, rfl⟩
  rw [qbc (q9 h0), qbd (q9 h0), qx]
  simpa [qhe, qbw, sg', qpg, qs0, qlc, qsg, AV.ren, AV.rens, VO.ren, qc9] using hq)
variable {a0 : List N}
theorem qba3 (h : RovD one more g 34 x b c a0) (h0 : (rowS one more b c a0).2.2.1 = a0) (hq : Q [curE (rowS one more b c a0).2.1, .blk [.ptr 0 0], e2, e3, e4, .app 5 (encs a0), .blk [.ptr 0 0], .blk [.str x], .blk [.bool (rowS one more b c a0).1]] (.val (.tup [.row 5 a0.length, .bool (rowS one more b c a0).2.2.2]))) :
 VApp Tryz.prog [curE c, .blk [.ptr 0 0], e2, e3, e4, .app 5 (encs a0), .blk [.ptr 0 0], .blk [.str x], .blk [.bool b]] (.fn 15 [] []) [.row 5 a0.length, .fn g [] [.ptr 1 0], .fn 34 [] [.ptr 8 0, .ptr 6 0, .ptr 7 0]] Q :=
 qcd (first := []) (caps := []) (by
  simp only [List.nil_append, List.append_nil]
  refine qc0 (H0 := [curE c, .blk [.ptr 0 0], .blk [.ptr 0 0], .blk [.str x], .blk [.bool b], .app 5 (encs a0)]) (args0 := [.row 5 a0.length, .fn g [] [.ptr 1 0], .fn 34 [] [.ptr 4 0, .ptr 2 0, .ptr 3 0]]) [0, 1, 6, 7, 8, 5] h (by simp) ?_ rfl rfl ?_
  ·(refine ev_ ?_; (try with_reducible exact ti_))
   all_goals (rw [qbb, qo]; exact ⟨rfl, rfl⟩)
  intro H1 o hh
  obtain ⟨rfl, rfl⟩ := hh.1 h0
  simpa [qhe, qbw, sg', qpg, qs0, qlc, qsg, AV.ren, AV.rens, VO.ren, qc9] using hq)
theorem qba9 (h : RovD one more g 34 x b c a0) (h0 : (rowS one more b c a0).2.2.1 ≠ a0) (hq : Q [curE (rowS one more b c a0).2.1, .blk [.ptr 0 0], e2, e3, e4, .dead, .blk [.ptr 0 0], .blk [.str x], .blk [.bool (rowS one more b c a0).1], .app 5 (encs (rowS one more b c a0).2.2.1)] (.val (.tup [.row 9 (rowS one more b c a0).2.2.1.length, .bool (rowS one more b c a0).2.2.2]))) :
 VApp Tryz.prog [curE c, .blk [.ptr 0 0], e2, e3, e4, .app 5 (encs a0), .blk [.ptr 0 0], .blk [.str x], .blk [.bool b]] (.fn 15 [] []) [.row 5 a0.length, .fn g [] [.ptr 1 0], .fn 34 [] [.ptr 8 0, .ptr 6 0, .ptr 7 0]] Q :=
 qcd (first := []) (caps := []) (by
  simp only [List.nil_append, List.append_nil]
  refine qc0 (H0 := [curE c, .blk [.ptr 0 0], .blk [.ptr 0 0], .blk [.str x], .blk [.bool b], .app 5 (encs a0)]) (args0 := [.row 5 a0.length, .fn g [] [.ptr 1 0], .fn 34 [] [.ptr 4 0, .ptr 2 0, .ptr 3 0]]) [0, 1, 6, 7, 8, 5] h (by simp) ?_ rfl rfl ?_
  ·(refine ev_ ?_; (try with_reducible exact ti_))
   all_goals (rw [qbb, qo]; exact ⟨rfl, rfl⟩)
  intro H1 o hh
  obtain ⟨rfl, rfl⟩ := hh.2 h0
  have hd : ∀ σ : Nat → Nat, Ent.dead.ren σ = .dead := fun σ => rfl
  simpa [qhe, qbw, sg', qpg, qs0, qlc, qsg, hd, AV.ren, AV.rens, VO.ren, qc9] using hq)
end
theorem ql0 (p : Int) (t : T) (v l : List N) : AV.agg [.int .i64 33, .int .i64 p, .int .i64 v.length, .str t.text, .sl 5 (encs l)] = enc (qrv p t v l) := by simp only [qrv, enc]
theorem qbbl (p : Int) (t : T) (l : List N) : AV.agg [.int .i64 33, .int .i64 p, .int .i64 0, .str t.text, .sl 5 (encs l)] = enc (qrv p t [] l) := ql0 p t [] l
theorem q4e (p : Int) (t : T) : AV.agg [.int .i64 33, .int .i64 p, .int .i64 0, .str t.text, .sl 5 []] = enc (qrv p t [] []) := ql0 p t [] []
theorem qbns (p : Int) (c : K) (hg : c.good) : qce Tryz.prog 36 (curE c) (curE (qmw p c).1) [.ptr 0 0, posZ p] (resB (qmw p c).2) := by
 have g1 : (qn c 2).1.good := (qbf c 2).1 hg
 have hR := q86 (qn c 2).1 g1
 have h0 := @qxl _ _ _ _ _ _ hR
 have h1 := @qys _ _ _ _ _ _ hR
 have g2 := (qgz goes_atom (monA qd8) false (qn c 2).1 []).1 g1
 have hlen := qbgy goes_atom (monA qd8) false (qn c 2).1 []
 have hle := (qgz goes_atom (monA qd8) false (qn c 2).1 []).2.1
 have h9 := g1.rest
 clear hR
 refine qp c0x 1 (by simp) (by simp [posZ]) ?_
 unfold qmw q4a posZ
 by_cases hk : (qn c 2).2 = true
 ·rw [if_pos hk]
  generalize rowS qde (qfw qd8) false (qn c 2).1 [] = r at *
  obtain ⟨fl, d, v, ok⟩ := r
  simp only at h0 h1 g2 hlen hle ⊢
  simp only [List.length_nil] at hlen
  have hle2 := (qd d [61]).2.1
  have hcap : qdq (v.length + 1) 64 := capN (by unfold rest at hlen; omega)
  have hvl : v.length ≤ maxLen := by unfold maxLen; unfold rest at hlen; omega
  have g3 : (qi d [61]).1.good := (qd _ _).1 g2
  have hR := q7d (qi d [61]).1 g3
  have hRv := q75 (qi d [61]).1 v g3 (by unfold rest at *; omega)
  unfold q1i
  by_cases hw : (qi d [61]).2 = true
  ·rw [if_pos hw]
   by_cases hl : v = []
   ·subst hl
    clear hRv
    have i0 := fun e2 e3 e4 Q => @qbbg conK (qb5 [124]) 66 [124] false (qi d [61]).1 e2 e3 e4 Q hR
    have i1 := fun e2 e3 e4 Q => @q8m conK (qb5 [124]) 66 [124] false (qi d [61]).1 e2 e3 e4 Q hR
    clear hR
    generalize rowS conK (qb5 [124]) false (qi d [61]).1 [] = r2 at *
    by_cases hq : r2.2.2.1 = []
    ·repeat' (first | refine vs_ ?_ | ((first | refine vrr_ ?_ | fail) <;> (try simp only [hk, hw, go_sem, ↓reduceIte])) | ((first | (refine cs_ ?_ ?_ <;> intro hc) | refine cj_ ?_ | fail | refine qdi hg.ok ?_ | refine h0 rfl ?_ | refine qcf g2.ok ?_ | refine qfe ?_ | refine i0 _ _ _ _ hq ?_) <;> (try refine ev_ ?_)) | with_reducible exact ti_)
     all_goals (try rw [hq, q4e])
     all_goals (try exact ⟨rfl, rfl⟩)
    ·repeat' (first | refine vs_ ?_ | ((first | refine vrr_ ?_ | fail) <;> (try simp only [hk, hw, go_sem, ↓reduceIte])) | ((first | (refine cs_ ?_ ?_ <;> intro hc) | refine cj_ ?_ | fail | refine qdi hg.ok ?_ | refine h0 rfl ?_ | refine qcf g2.ok ?_ | refine qfe ?_ | refine i1 _ _ _ _ hq ?_) <;> (try refine ev_ ?_)) | with_reducible exact ti_)
     all_goals (try rw [qbbl])
     all_goals (try exact ⟨rfl, rfl⟩)
   ·clear hR
    have i0 := fun e2 e3 e4 Q => @qba3 conK (qb5 [124]) 66 [124] false (qi d [61]).1 e2 e3 e4 Q v hRv
    have i1 := fun e2 e3 e4 Q => @qba9 conK (qb5 [124]) 66 [124] false (qi d [61]).1 e2 e3 e4 Q v hRv
    clear hRv
    generalize rowS conK (qb5 [124]) false (qi d [61]).1 v = r2 at *
    by_cases hq : r2.2.2.1 = v
    ·repeat' (first | refine vs_ ?_ | ((first | refine vrr_ ?_ | fail) <;> (try simp only [hk, hw, go_sem, ↓reduceIte])) | ((first | (refine cs_ ?_ ?_ <;> intro hc) | refine cj_ ?_ | fail | refine qdi hg.ok ?_ | refine h1 hl ?_ | refine qcf g2.ok ?_ | refine qfe ?_ | refine i0 _ _ _ _ hq ?_) <;> (try refine ev_ ?_)) | with_reducible exact ti_)
     all_goals (try rw [hq, ql0])
     all_goals (try exact ⟨rfl, rfl⟩)
    ·repeat' (first | refine vs_ ?_ | ((first | refine vrr_ ?_ | fail) <;> (try simp only [hk, hw, go_sem, ↓reduceIte])) | ((first | (refine cs_ ?_ ?_ <;> intro hc) | refine cj_ ?_ | fail | refine qdi hg.ok ?_ | refine h1 hl ?_ | refine qcf g2.ok ?_ | refine qfe ?_ | refine i1 _ _ _ _ hq ?_) <;> (try refine ev_ ?_)) | with_reducible exact ti_)
     all_goals (try rw [ql0])
     all_goals (try exact ⟨rfl, rfl⟩)
  ·rw [if_neg hw]
   by_cases hl : v = []
   ·repeat' (first | refine vs_ ?_ | ((first | refine vrr_ ?_ | fail) <;> (try simp only [hk, hw, go_sem, ↓reduceIte])) | ((first | (refine cs_ ?_ ?_ <;> intro hc) | refine cj_ ?_ | fail | refine qdi hg.ok ?_ | refine h0 hl ?_ | refine qcf g2.ok ?_) <;> (try refine ev_ ?_)) | with_reducible exact ti_)
    all_goals (try rw [qjt])
    all_goals (try exact ⟨rfl, rfl⟩)
   ·repeat' (first | refine vs_ ?_ | ((first | refine vrr_ ?_ | fail) <;> (try simp only [hk, hw, go_sem, ↓reduceIte])) | ((first | (refine cs_ ?_ ?_ <;> intro hc) | refine cj_ ?_ | fail | refine qdi hg.ok ?_ | refine h1 hl ?_ | refine qcf g2.ok ?_) <;> (try refine ev_ ?_)) | with_reducible exact ti_)
    all_goals (try rw [qjt])
    all_goals (try exact ⟨rfl, rfl⟩)
 ·rw [if_neg hk]
  repeat' (first | refine vs_ ?_ | ((first | refine vr_ ?_ | fail) <;> (try simp only [hk, go_sem, ↓reduceIte])) | ((first | (refine cs_ ?_ ?_ <;> intro hc) | refine cj_ ?_ | fail | refine qdi hg.ok ?_) <;> (try refine ev_ ?_)) | with_reducible exact ti_)
  all_goals (try rw [qjt])
  all_goals (try exact ⟨rfl, rfl⟩)
set_option maxRecDepth 4000

theorem qbah (kd : Int) (c : K) (hg : c.good) : qce Tryz.prog 114 (curE c) (curE (qbn kd c).1) [.ptr 0 0, .int .i64 kd] (resB (qbn kd c).2) := by
 have hb := qxd c hg
 refine qp c0s 1 (by simp) (by simp) ?_
 unfold qbn ofO
 generalize qh4 c = r at *
 obtain ⟨d, o⟩ := r
 cases o with
 | none =>
   repeat' (first | refine vs_ ?_ | ((first | refine vr_ ?_ | fail) <;> (try simp (disch := first | omega | (simp only [List.length_set, List.length_append, List.length_cons, List.length_nil]; done) | (simp only [List.length_set, List.length_append, List.length_cons, List.length_nil]; omega)) only [Option.isSome_none, Option.getD_none, go_sem, ↓reduceIte])) | ((first | (refine cs_ ?_ ?_ <;> intro hc) | refine cj_ ?_ | fail | refine qcs hb rfl ?_) <;> (try refine ev_ ?_)) | with_reducible exact ti_)
   all_goals first | (rw [qdt]; done) | (rw [qdt]; rfl) | (rw [qdt]; exact ⟨rfl, rfl⟩) | rfl | (simp; done)
 | some n =>
   obtain ⟨k, p, m, t, l⟩ := n
   by_cases hk : k = kd
   ·rw [if_neg (by simp [N.kind, hk])]
    repeat' (first | refine vs_ ?_ | ((first | refine vr_ ?_ | fail) <;> (try simp (disch := first | omega | (simp only [List.length_set, List.length_append, List.length_cons, List.length_nil]; done) | (simp only [List.length_set, List.length_append, List.length_cons, List.length_nil]; omega)) only [Option.isSome_some, Option.getD_some, go_sem, ↓reduceIte])) | ((first | (refine cs_ ?_ ?_ <;> intro hc) | refine cj_ ?_ | fail | refine qcs hb rfl ?_ | refine qg4 ?_) <;> (try refine ev_ ?_)) | with_reducible exact ti_)
    all_goals first | (exfalso; simp_all [N.kind]; done) | exact ⟨rfl, rfl⟩
   ·rw [if_pos (by simp [N.kind, hk])]
    repeat' (first | refine vs_ ?_ | ((first | refine vr_ ?_ | fail) <;> (try simp (disch := first | omega | (simp only [List.length_set, List.length_append, List.length_cons, List.length_nil]; done) | (simp only [List.length_set, List.length_append, List.length_cons, List.length_nil]; omega)) only [Option.isSome_some, Option.getD_some, go_sem, ↓reduceIte])) | ((first | (refine cs_ ?_ ?_ <;> intro hc) | refine cj_ ?_ | fail | refine qcs hb rfl ?_ | refine qg4 ?_) <;> (try refine ev_ ?_)) | with_reducible exact ti_)
    all_goals first | (exfalso; simp_all [N.kind]; done) | exact ⟨rfl, rfl⟩
theorem qbci {kd : Int} {c : K} {L : List Ent} {Q : List Ent → VO → Prop} (hg : c.good) (hq : Q (curE (qbn kd c).1 :: L) (.val (resB (qbn kd c).2))) : VApp Tryz.prog (curE c :: L) (.fn 114 [] []) [.ptr 0 0, .int .i64 kd] Q := ql4 (qbah kd c hg) rfl hq
theorem qbc5 (x : List UInt8) (kd : Int) (b : Bool) (c : K) (hg : c.good) : VCalls Tryz.prog 113 [curE c, .blk [.ptr 0 0], .blk [.ptr 0 0], .blk [.str x], .blk [.bool b], .blk [.fn 34 [] [.ptr 4 0, .ptr 2 0, .ptr 3 0]], .blk [.int .i64 kd]] [.ptr 1 0, .ptr 6 0] fun H' o => H' = frB x kd b (qbn kd c).1 ∧ o = .val (resB (qbn kd c).2) := by
 refine qp c0t 7 (by simp) (by simp) ?_
 unfold frB
 repeat' (first | refine vs_ ?_ | ((first | refine vr_ ?_ | refine qbci hg ?_ | (refine cs_ ?_ ?_ <;> intro hc) | refine cj_ ?_ | fail) <;> (try refine ev_ ?_)) | with_reducible exact ti_)
 all_goals exact ⟨rfl, rfl⟩
theorem qbfa (kd : Int) (b : Bool) (c : K) (hg : c.good) : VCalls Tryz.prog 115 [curE c, .blk [.ptr 0 0], .blk [.ptr 0 0], .blk [.str [59]], .blk [.bool b], .blk [.fn 34 [] [.ptr 4 0, .ptr 2 0, .ptr 3 0]], .blk [.int .i64 kd]] [.ptr 1 0, .ptr 5 0] fun H' o => H' = frB [59] kd (qgq b c).1 (qgq b c).2.1 ∧ o = .val (.bool (qgq b c).2.2) := by
 refine qp c0u 7 (by simp) (by simp) ?_
 unfold frB qgq
 by_cases hi : isK c [125] = true
 ·rw [if_pos hi]
  repeat' (first | refine vs_ ?_ | ((first | refine vr_ ?_ | fail) <;> (try simp only [hi, go_sem, ↓reduceIte])) | ((first | (refine cs_ ?_ ?_ <;> intro hc) | refine cj_ ?_ | fail | refine a_Is ?_ | refine qjf hg ?_) <;> (try refine ev_ ?_)) | with_reducible exact ti_)
  all_goals first | exact ⟨rfl, rfl⟩ | (exfalso; simp_all; done) | (simp_all; done)
 ·rw [if_neg hi]
  have hi2 : isK c [125] = false := by simpa using hi
  by_cases ha : (qb5 [59] b c).2.2 = true
  ·repeat' (first | refine vs_ ?_ | ((first | refine vr_ ?_ | fail) <;> (try simp only [hi2, ha, go_sem, ↓reduceIte])) | ((first | (refine cs_ ?_ ?_ <;> intro hc) | refine cj_ ?_ | fail | refine a_Is ?_ | refine qjf hg ?_) <;> (try refine ev_ ?_)) | with_reducible exact ti_)
   all_goals first | exact ⟨rfl, rfl⟩ | (exfalso; simp_all; done) | (simp_all; done)
  ·have ha2 : (qb5 [59] b c).2.2 = false := by simpa using ha
   repeat' (first | refine vs_ ?_ | ((first | refine vr_ ?_ | fail) <;> (try simp only [hi2, ha2, go_sem, ↓reduceIte])) | ((first | (refine cs_ ?_ ?_ <;> intro hc) | refine cj_ ?_ | fail | refine a_Is ?_ | refine qjf hg ?_) <;> (try refine ev_ ?_)) | with_reducible exact ti_)
   all_goals first | exact ⟨rfl, rfl⟩ | (exfalso; simp_all; done) | (simp_all; done)
theorem q6x (kd : Int) (c : K) (a0 : List N) (hg : c.good) (hl : a0.length + rest c ≤ 1048578) : RovB (qbn kd) qgq 113 115 [59] kd false c a0 :=
 qbbz (qeb kd) monB (fun b c g _ => qbc5 _ kd b c g) (fun b c g _ => qbfa kd b c g) false c a0 hg (Nat.le_refl _) hl
section
variable {one : K → R3} {more : MF} {g1 g2 : FuncId} {x : List UInt8} {kd : Int} {b : Bool} {c : K} {a0 : List N} {Q : List Ent → VO → Prop}
theorem qbcb (h : RovB one more g1 g2 x kd b c a0) (h0 : (rowS one more b c a0).2.2.1 = a0) (hq : Q [curE (rowS one more b c a0).2.1, .app 5 (encs a0), .blk [.ptr 0 0], .blk [.int .i64 kd], .blk [.ptr 0 0], .blk [.str x], .blk [.bool (rowS one more b c a0).1], .blk [.fn 34 [] [.ptr 6 0, .ptr 4 0, .ptr 5 0]]] (.val (.tup [.row 1 a0.length, .bool (rowS one more b c a0).2.2.2]))) :
 VApp Tryz.prog [curE c, .app 5 (encs a0), .blk [.ptr 0 0], .blk [.int .i64 kd], .blk [.ptr 0 0], .blk [.str x], .blk [.bool b], .blk [.fn 34 [] [.ptr 6 0, .ptr 4 0, .ptr 5 0]]] (.fn 15 [] []) [.row 1 a0.length, .fn g1 [] [.ptr 2 0, .ptr 3 0], .fn g2 [] [.ptr 2 0, .ptr 7 0]] Q :=
 qcd (first := []) (caps := []) (by
  simp only [List.nil_append, List.append_nil]
  refine qc0 (H0 := [curE c, .blk [.ptr 0 0], .blk [.ptr 0 0], .blk [.str x], .blk [.bool b], .blk [.fn 34 [] [.ptr 4 0, .ptr 2 0, .ptr 3 0]], .blk [.int .i64 kd], .app 5 (encs a0)]) (args0 := [.row 7 a0.length, .fn g1 [] [.ptr 1 0, .ptr 6 0], .fn g2 [] [.ptr 1 0, .ptr 5 0]]) [0, 2, 4, 5, 6, 7, 3, 1] h (by simp) ?_ rfl rfl ?_
  ·(refine ev_ ?_; (try with_reducible exact ti_))
   all_goals (rw [qbb, qo]; exact ⟨rfl, rfl⟩)
  intro H1 o hh
  obtain ⟨rfl, rfl⟩ := hh.1 h0
  simpa [qhe, qbw, sg', qpg, qs0, qlc, qciz, qsg, e_fn, AV.ren, AV.rens, VO.ren, qc9] using hq)
theorem qba6 (h : RovB one more g1 g2 x kd b c a0) (h0 : (rowS one more b c a0).2.2.1 ≠ a0) (hq : Q [curE (rowS one more b c a0).2.1, .dead, .blk [.ptr 0 0], .blk [.int .i64 kd], .blk [.ptr 0 0], .blk [.str x], .blk [.bool (rowS one more b c a0).1], .blk [.fn 34 [] [.ptr 6 0, .ptr 4 0, .ptr 5 0]], .app 5 (encs (rowS one more b c a0).2.2.1)] (.val (.tup [.row 8 (rowS one more b c a0).2.2.1.length, .bool (rowS one more b c a0).2.2.2]))) :
 VApp Tryz.prog [curE c, .app 5 (encs a0), .blk [.ptr 0 0], .blk [.int .i64 kd], .blk [.ptr 0 0], .blk [.str x], .blk [.bool b], .blk [.fn 34 [] [.ptr 6 0, .ptr 4 0, .ptr 5 0]]] (.fn 15 [] []) [.row 1 a0.length, .fn g1 [] [.ptr 2 0, .ptr 3 0], .fn g2 [] [.ptr 2 0, .ptr 7 0]] Q :=
 qcd (first := []) (caps := []) (by
  simp only [List.nil_append, List.append_nil]
  refine qc0 (H0 := [curE c, .blk [.ptr 0 0], .blk [.ptr 0 0], .blk [.str x], .blk [.bool b], .blk [.fn 34 [] [.ptr 4 0, .ptr 2 0, .ptr 3 0]], .blk [.int .i64 kd], .app 5 (encs a0)]) (args0 := [.row 7 a0.length, .fn g1 [] [.ptr 1 0, .ptr 6 0], .fn g2 [] [.ptr 1 0, .ptr 5 0]]) [0, 2, 4, 5, 6, 7, 3, 1] h (by simp) ?_ rfl rfl ?_
  ·(refine ev_ ?_; (try with_reducible exact ti_))
   all_goals (rw [qbb, qo]; exact ⟨rfl, rfl⟩)
  intro H1 o hh
  obtain ⟨rfl, rfl⟩ := hh.2 h0
  have hd : ∀ σ : Nat → Nat, Ent.dead.ren σ = .dead := fun σ => rfl
  simpa [qhe, qbw, sg', qpg, qs0, qlc, qciz, qsg, e_fn, hd, AV.ren, AV.rens, VO.ren, qc9] using hq)
end
theorem q3m {kd : Int} : ∀ (f : Nat) (b : Bool) (c : K) (acc : List N), rest c < f → (rowF (qbn kd) qgq f b c acc).2.2.1 ≠ acc → (rowF (qbn kd) qgq f b c acc).2.2.1 ≠ []
 | 0, _, _, _, h, _ => absurd h (by omega)
 | f + 1, b, c, acc, hf, h => by
   rw [rowF] at h ⊢
   have h3 := (monB b c).2.1
   split at h
   ·rename_i h1
    rw [if_pos h1]
    split at h
    ·rename_i h2
     rw [if_pos h2]
     have h4 := (qeb kd).l _ h2
     by_cases hq : (rowF (qbn kd) qgq f (qgq b c).1 (qbn kd (qgq b c).2.1).1 (acc ++ [(qbn kd (qgq b c).2.1).2.1])).2.2.1 = acc ++ [(qbn kd (qgq b c).2.1).2.1]
     ·rw [hq]; simp
     ·exact q3m f _ _ _ (by omega) hq
    ·exact absurd rfl h
   ·exact absurd rfl h
def qlu (kd : Int) (c : K) (out : List N) : Prop :=
 VCalls Tryz.prog 70 [curE c, .app 5 (encs out)] [.ptr 0 0, .row 1 out.length, .int .i64 kd] fun H' o =>
  ((qds kd c out).2.1 = out → H' = [curE (qds kd c out).1, .app 5 (encs out)] ∧ o = .val (.tup [.row 1 out.length, .bool (qds kd c out).2.2])) ∧
  ((qds kd c out).2.1 ≠ out → H' = [curE (qds kd c out).1, .dead, .app 5 (encs (qds kd c out).2.1)] ∧ o = .val (.tup [.row 2 (qds kd c out).2.1.length, .bool (qds kd c out).2.2]))
theorem q90 (kd : Int) (c : K) (out : List N) (hg : c.good) (hl : out.length + rest c ≤ 1048578) : qlu kd c out := by
 unfold qlu
 obtain ⟨kk, hk1, hk2, hk0⟩ : ∃ k : Nat, ((qds kd c out).2.1 = out → k = 2) ∧ ((qds kd c out).2.1 ≠ out → k = 3) ∧ 2 ≤ k := by
  by_cases h : (qds kd c out).2.1 = out
  ·exact ⟨2, fun _ => rfl, fun g => absurd h g, Nat.le_refl _⟩
  ·exact ⟨3, fun g => absurd g h, fun _ => rfl, Nat.le_succ _⟩
 refine qd1 c0v kk (by simpa using hk0) (by simp) ?_
 have g1 : (qi c [119, 104, 101, 114, 101]).1.good := (qd c _).1 hg
 have g2 : (qi (qi c [119, 104, 101, 114, 101]).1 [123]).1.good := (qd _ _).1 g1
 have r1 := (qd c [119, 104, 101, 114, 101]).2.1
 have r2 := (qd (qi c [119, 104, 101, 114, 101]).1 [123]).2.1
 unfold qds at *
 by_cases h1 : (qi c [119, 104, 101, 114, 101]).2 = true
 ·simp only [if_pos h1] at hk1 hk2 ⊢
  by_cases h2 : (qi (qi c [119, 104, 101, 114, 101]).1 [123]).2 = true
  ·simp only [if_pos h2] at hk1 hk2 ⊢
   have hR := q6x kd (qi (qi c [119, 104, 101, 114, 101]).1 [123]).1 out g2 (by omega)
   have i0 := fun Q => @qbcb _ _ _ _ _ _ _ _ _ Q hR
   have i1 := fun Q => @qba6 _ _ _ _ _ _ _ _ _ Q hR
   have hln0 : (rowS (qbn kd) qgq false (qi (qi c [119, 104, 101, 114, 101]).1 [123]).1 out).2.2.1 ≠ out → (rowS (qbn kd) qgq false (qi (qi c [119, 104, 101, 114, 101]).1 [123]).1 out).2.2.1 ≠ [] := q3m _ _ _ _ (Nat.lt_succ_self _)
   have g3 := (qgz (qeb kd) monB false (qi (qi c [119, 104, 101, 114, 101]).1 [123]).1 out).1 g2
   clear hR
   generalize rowS (qbn kd) qgq false (qi (qi c [119, 104, 101, 114, 101]).1 [123]).1 out = r at *
   obtain ⟨fl, d, l, ok⟩ := r
   simp only at i0 i1 g3 hk1 hk2 hln0 ⊢
   have hln : l ≠ out → l ≠ [] := hln0
   have hl2 : (qn7 (d, l, ok)).2.1 = l := by unfold qn7; split <;> rfl
   rw [hl2] at hk1 hk2
   simp only [hl2]
   by_cases hq : l = out
   ·obtain rfl := hk1 hq
    cases ok with
    | false =>
      unfold qn7
      repeat' (first | refine vs_ ?_ | ((first | refine vrr_ ?_ | fail) <;> (try simp only [h1, h2, go_sem, ↓reduceIte])) | ((first | (refine cs_ ?_ ?_ <;> intro hc) | refine cj_ ?_ | fail | refine qcf hg.ok ?_ | refine qcf g1.ok ?_ | refine qfe ?_ | refine i0 _ hq ?_) <;> (try refine ev_ ?_)) | with_reducible exact ti_)
      all_goals first | exact ⟨fun _ => by first | trivial | exact ⟨rfl, rfl⟩, fun g => absurd hq g⟩ | (exfalso; clear i0 i1; simp_all; done)
    | true =>
      unfold qn7
      repeat' (first | refine vs_ ?_ | ((first | refine vrr_ ?_ | fail) <;> (try simp only [h1, h2, go_sem, ↓reduceIte])) | ((first | (refine cs_ ?_ ?_ <;> intro hc) | refine cj_ ?_ | fail | refine qcf hg.ok ?_ | refine qcf g1.ok ?_ | refine qfe ?_ | refine i0 _ hq ?_ | refine qcf g3.ok ?_) <;> (try refine ev_ ?_)) | with_reducible exact ti_)
      all_goals first | exact ⟨fun _ => by first | trivial | exact ⟨rfl, rfl⟩, fun g => absurd hq g⟩ | (exfalso; clear i0 i1; simp_all; done)
   ·obtain rfl := hk2 hq
    have hne : l ≠ [] := hln hq
    unfold k0v
    generalize h9 : qbm3 = R5
    repeat' (first | refine vs_ ?_ | ((first | refine vrr_ ?_ | fail) <;> (try simp only [h1, h2, go_sem, ↓reduceIte])) | ((first | (refine cs_ ?_ ?_ <;> intro hc) | refine cj_ ?_ | fail | refine qcf hg.ok ?_ | refine qcf g1.ok ?_ | refine qfe ?_ | refine i1 _ hq ?_) <;> (try refine ev_ ?_)) | with_reducible exact ti_)
    all_goals first | (exfalso; clear i0 i1 h9; simp_all; done) | skip
    refine qb5i (af' := ⟨[(1, .row 2 l.length), (3, .ptr 3 0), (9, .bool ok)], []⟩) (H' := [curE d, .dead, .app 5 (encs l), .blk [.ptr 0 0]]) ?_ (qbep [0, 1, 8, 2] rfl (by simp) ?_ ?_ ?_)
    rotate_left
    all_goals (try (refine ev_ ?_; (try with_reducible exact ti_)))
    all_goals (try (rw [qo, qbb]; exact ⟨rfl, rfl⟩))
    subst h9
    cases ok with
    | false =>
      unfold qn7
      repeat' (first | refine vs_ ?_ | ((first | refine vrr_ ?_ | refine qcf g3.ok ?_ | (refine cs_ ?_ ?_ <;> intro hc) | refine cj_ ?_ | fail) <;> (try refine ev_ ?_)) | with_reducible exact ti_)
      all_goals exact ⟨fun g => absurd g hq, fun _ => by first | trivial | exact ⟨rfl, rfl⟩⟩
    | true =>
      unfold qn7
      repeat' (first | refine vs_ ?_ | ((first | refine vrr_ ?_ | refine qcf g3.ok ?_ | (refine cs_ ?_ ?_ <;> intro hc) | refine cj_ ?_ | fail) <;> (try refine ev_ ?_)) | with_reducible exact ti_)
      all_goals exact ⟨fun g => absurd g hq, fun _ => by first | trivial | exact ⟨rfl, rfl⟩⟩
  ·simp only [if_neg h2] at hk1 hk2 ⊢
   obtain rfl := hk1 (by trivial)
   repeat' (first | refine vs_ ?_ | ((first | refine vrr_ ?_ | fail) <;> (try simp only [h1, h2, go_sem, ↓reduceIte])) | ((first | (refine cs_ ?_ ?_ <;> intro hc) | refine cj_ ?_ | fail | refine qcf hg.ok ?_ | refine qcf g1.ok ?_) <;> (try refine ev_ ?_)) | with_reducible exact ti_)
   all_goals first | exact ⟨rfl, rfl⟩ | exact ⟨fun _ => by first | trivial | exact ⟨rfl, rfl⟩, fun g => absurd rfl g⟩ | (exfalso; simp_all; done) | (simp_all; done)
 ·simp only [if_neg h1] at hk1 hk2 ⊢
  obtain rfl := hk1 (by trivial)
  repeat' (first | refine vs_ ?_ | ((first | refine vrr_ ?_ | fail) <;> (try simp only [h1, go_sem, ↓reduceIte])) | ((first | (refine cs_ ?_ ?_ <;> intro hc) | refine cj_ ?_ | fail | refine qcf hg.ok ?_ | refine qcf g1.ok ?_ | refine qfe ?_) <;> (try refine ev_ ?_)) | with_reducible exact ti_)
  all_goals first | exact ⟨rfl, rfl⟩ | exact ⟨fun _ => by first | trivial | exact ⟨rfl, rfl⟩, fun g => absurd rfl g⟩ | (exfalso; simp_all; done) | (simp_all; done)
set_option maxRecDepth 4000

section
variable {kd : Int} {c : K} {out : List N} {e1 e2 e3 e4 e5 : Ent} {Q : List Ent → VO → Prop}
theorem qbmd (h : qlu kd c out) (h0 : (qds kd c out).2.1 = out) (hq : Q [curE (qds kd c out).1, e1, e2, e3, e4, .app 5 (encs out)] (.val (.tup [.row 5 out.length, .bool (qds kd c out).2.2]))) :
 VApp Tryz.prog [curE c, e1, e2, e3, e4, .app 5 (encs out)] (.fn 70 [] []) [.ptr 0 0, .row 5 out.length, .int .i64 kd] Q :=
 qcd (first := []) (caps := []) (by
  simp only [List.nil_append, List.append_nil]
  refine qc0 (H0 := [curE c, .app 5 (encs out)]) (args0 := [.ptr 0 0, .row 1 out.length, .int .i64 kd]) [0, 5] h (by simp) ?_ rfl rfl ?_
  ·(refine ev_ ?_; (try with_reducible exact ti_))
   all_goals (rw [qbb, qo]; exact ⟨rfl, rfl⟩)
  intro H1 o hh
  obtain ⟨rfl, rfl⟩ := hh.1 h0
  simpa [qhe, qbw, sg', qsg, AV.ren, AV.rens, VO.ren, qc9] using hq)
theorem qbmn (h : qlu kd c out) (h0 : (qds kd c out).2.1 ≠ out) (hq : Q [curE (qds kd c out).1, e1, e2, e3, e4, .dead, .app 5 (encs (qds kd c out).2.1)] (.val (.tup [.row 6 (qds kd c out).2.1.length, .bool (qds kd c out).2.2]))) :
 VApp Tryz.prog [curE c, e1, e2, e3, e4, .app 5 (encs out)] (.fn 70 [] []) [.ptr 0 0, .row 5 out.length, .int .i64 kd] Q :=
 qcd (first := []) (caps := []) (by
  simp only [List.nil_append, List.append_nil]
  refine qc0 (H0 := [curE c, .app 5 (encs out)]) (args0 := [.ptr 0 0, .row 1 out.length, .int .i64 kd]) [0, 5] h (by simp) ?_ rfl rfl ?_
  ·(refine ev_ ?_; (try with_reducible exact ti_))
   all_goals (rw [qbb, qo]; exact ⟨rfl, rfl⟩)
  intro H1 o hh
  obtain ⟨rfl, rfl⟩ := hh.2 h0
  have hd : ∀ σ : Nat → Nat, Ent.dead.ren σ = .dead := fun σ => rfl
  simpa [qhe, qbw, sg', qsg, hd, AV.ren, AV.rens, VO.ren, qc9] using hq)
theorem qbmc (h : qlu kd c out) (h0 : (qds kd c out).2.1 = out) (hq : Q [curE (qds kd c out).1, e1, e2, e3, e4, e5, .app 5 (encs out)] (.val (.tup [.row 6 out.length, .bool (qds kd c out).2.2]))) :
 VApp Tryz.prog [curE c, e1, e2, e3, e4, e5, .app 5 (encs out)] (.fn 70 [] []) [.ptr 0 0, .row 6 out.length, .int .i64 kd] Q :=
 qcd (first := []) (caps := []) (by
  simp only [List.nil_append, List.append_nil]
  refine qc0 (H0 := [curE c, .app 5 (encs out)]) (args0 := [.ptr 0 0, .row 1 out.length, .int .i64 kd]) [0, 6] h (by simp) ?_ rfl rfl ?_
  ·(refine ev_ ?_; (try with_reducible exact ti_))
   all_goals (rw [qbb, qo]; exact ⟨rfl, rfl⟩)
  intro H1 o hh
  obtain ⟨rfl, rfl⟩ := hh.1 h0
  simpa [qhe, qbw, sg', qsg, AV.ren, AV.rens, VO.ren, qc9] using hq)
theorem qbmx (h : qlu kd c out) (h0 : (qds kd c out).2.1 ≠ out) (hq : Q [curE (qds kd c out).1, e1, e2, e3, e4, e5, .dead, .app 5 (encs (qds kd c out).2.1)] (.val (.tup [.row 7 (qds kd c out).2.1.length, .bool (qds kd c out).2.2]))) :
 VApp Tryz.prog [curE c, e1, e2, e3, e4, e5, .app 5 (encs out)] (.fn 70 [] []) [.ptr 0 0, .row 6 out.length, .int .i64 kd] Q :=
 qcd (first := []) (caps := []) (by
  simp only [List.nil_append, List.append_nil]
  refine qc0 (H0 := [curE c, .app 5 (encs out)]) (args0 := [.ptr 0 0, .row 1 out.length, .int .i64 kd]) [0, 6] h (by simp) ?_ rfl rfl ?_
  ·(refine ev_ ?_; (try with_reducible exact ti_))
   all_goals (rw [qbb, qo]; exact ⟨rfl, rfl⟩)
  intro H1 o hh
  obtain ⟨rfl, rfl⟩ := hh.2 h0
  have hd : ∀ σ : Nat → Nat, Ent.dead.ren σ = .dead := fun σ => rfl
  simpa [qhe, qbw, sg', qsg, hd, AV.ren, AV.rens, VO.ren, qc9] using hq)
end
theorem qbmo : ∀ l : List N, l.length ≤ szs l
 | [] => Nat.zero_le _
 | x :: r => by
   have := qbmo r
   rw [szs, qkl, List.length_cons]; omega
def qbdh (k p : Int) : AV := .agg [.int .i64 k, .int .i64 p, .int .i64 0, .str [], .nils]
theorem qvp (k p : Int) : AV.agg [.int .i64 k, .int .i64 p, .int .i64 0, .str [], .sl 5 []] = enc (q5b k p) := by simp only [q5b, enc, encs]
theorem qgf (k p : Int) (t : T) (v l : List N) : AV.agg [.int .i64 k, .int .i64 p, .int .i64 v.length, .str t.text, .sl 5 (encs l)] = enc (qk8 k p t v l) := by simp only [qk8, enc]
theorem qsu (k p : Int) (t : T) (v : List N) : AV.agg [.int .i64 k, .int .i64 p, .int .i64 v.length, .str t.text, .sl 5 []] = enc (qk8 k p t v []) := qgf k p t v []
theorem qg6 (k p : Int) (t : T) (l : List N) : AV.agg [.int .i64 k, .int .i64 p, .int .i64 0, .str t.text, .sl 5 (encs l)] = enc (qk8 k p t [] l) := qgf k p t [] l
theorem qq2 (k p : Int) (t : T) : AV.agg [.int .i64 k, .int .i64 p, .int .i64 0, .str t.text, .sl 5 []] = enc (qk8 k p t [] []) := qgf k p t [] []
set_option maxHeartbeats 2000000 in
theorem q8y (k p : Int) (c : K) (hg : c.good) : qce Tryz.prog 37 (curE c) (curE (ql2 k p c).1) [.ptr 0 0, qbdh k p] (resB (ql2 k p c).2) := by
 have hP : qi5 (qb3 (rest c + 2)) c := qqj (qcy _) (qy3 (rest c + 2)) c hg (by omega)
 have p0 := @qot (qb3 (rest c + 2)) c hP
 have p1 := @qun (qb3 (rest c + 2)) c hP
 have g1 : (qd3 c).1.good := (qgp c).1 hg
 have h9 := hg.rest
 have hpl := fun l => @q5l c l
 have hpz := fun l (h : (qd3 c).2 = some l) => Nat.le_trans (Nat.add_le_add_right (qbmo l) _) (@qxf c l h)
 clear hP
 refine qp c0r 1 (by simp) (by simp [qbdh]) ?_
 unfold ql2 q55 qbdh
 unfold qd3 at *
 generalize qbj (qb3 (rest c + 2)) c = pr at *
 obtain ⟨d, o⟩ := pr
 simp only at p0 p1 g1 hpl hpz ⊢
 cases o with
 | none =>
   repeat' (first | refine vs_ ?_ | ((first | refine vrr_ ?_ | fail) <;> (try simp (disch := first | omega | (simp only [List.length_set, List.length_append, List.length_cons, List.length_nil]; done) | (simp only [List.length_set, List.length_append, List.length_cons, List.length_nil]; omega)) only [Option.isSome_none, Option.getD_none, go_sem, ↓reduceIte])) | ((first | (refine cs_ ?_ ?_ <;> intro hc) | refine cj_ ?_ | fail | refine p0 rfl ?_) <;> (try refine ev_ ?_)) | with_reducible exact ti_)
   all_goals (try rw [qvp])
   all_goals first | exact ⟨rfl, rfl⟩ | rfl | (exfalso; clear p0 p1; simp_all; done)
 | some v =>
   have hvl := hpl v rfl
   have hvz := hpz v rfl
   have hvm : v.length ≤ maxLen := by unfold maxLen; unfold rest at hvl; omega
   have hcap : qdq (v.length + 1) 64 := capN (by unfold rest at hvl; omega)
   have hcap1 : qdq 1 64 := capN (by omega)
   have p0 : v = [] → _ := fun h => @p0 h
   have p1 : v ≠ [] → _ := fun h => @p1 v rfl h
   clear hpl hpz
   simp only [Option.getD_some, Option.isSome_some, if_true]
   have g2 : (qn d 2).1.good := (qbf d 2).1 g1
   have r2 := (qbf d 2).2.1
   by_cases hk : (qn d 2).2 = true
   ·rw [if_pos hk]
    have ha := qqy (qn d 2).1 g2
    have g3 := (qhz (qn d 2).1).1 g2
    have r3 := (qhz (qn d 2).1).2.1
    have r4 : (qgh (qn d 2).1).2.isSome = true → rest (qgh (qn d 2).1).1 < rest (qn d 2).1 := fun h => qd9 (qcy _) h
    unfold q0e q4o
    generalize qgh (qn d 2).1 = a at *
    have hkl := qn9 (by decide) hk
    have hvl2 : v.length + 1 + rest a.1 ≤ 1048578 := by unfold rest at *; omega
    by_cases h35 : k = 35
    ·subst h35
     simp only [true_and, if_true]
     by_cases hv : (qq (qn d 2).1).kind = 1
     ·have hv1 := hv
      rw [if_neg (by simp [hv])]
      have hbs := q90 32 a.1 (v ++ [a.2.getD N0]) g3 (by simp only [List.length_append, List.length_cons, List.length_nil]; unfold rest at *; omega)
      have a0 := fun e1 e2 e3 e4 Q => @qbmd 32 a.1 (v ++ [a.2.getD N0]) e1 e2 e3 e4 Q hbs
      have a1 := fun e1 e2 e3 e4 Q => @qbmn 32 a.1 (v ++ [a.2.getD N0]) e1 e2 e3 e4 Q hbs
      have b0 := fun e1 e2 e3 e4 e5 Q => @qbmc 32 a.1 (v ++ [a.2.getD N0]) e1 e2 e3 e4 e5 Q hbs
      have b1 := fun e1 e2 e3 e4 e5 Q => @qbmx 32 a.1 (v ++ [a.2.getD N0]) e1 e2 e3 e4 e5 Q hbs
      clear hbs
      generalize qds 32 a.1 (v ++ [a.2.getD N0]) = B at *
      obtain ⟨a, oa⟩ := a
      cases oa with
      | none =>
        simp only [Option.isSome_none, Bool.false_eq_true, if_false, Option.getD_none] at ha ⊢
        clear a0 a1 b0 b1
        by_cases h0 : v = []
        ·repeat' (first | refine vs_ ?_ | ((first | refine vrr_ ?_ | fail) <;> (try simp (disch := first | omega | (simp only [List.length_set, List.length_append, List.length_cons, List.length_nil]; done) | (simp only [List.length_set, List.length_append, List.length_cons, List.length_nil]; omega)) only [hk, Option.isSome_some, hv1, ne_eq, not_true_eq_false, decide_false, Option.isSome_none, Option.getD_none, go_sem, ↓reduceIte])) | ((first | (refine cs_ ?_ ?_ <;> intro hc) | refine cj_ ?_ | fail | refine p0 h0 ?_ | refine qdi g1.ok ?_ | refine qb6 ?_ | refine qg4 ?_ | refine qcs ha rfl ?_) <;> (try refine ev_ ?_)) | with_reducible exact ti_)
         all_goals (try subst h0)
         all_goals (try rw [qq2])
         all_goals first | exact ⟨rfl, rfl⟩ | rfl | (exfalso; clear p0 p1; simp_all; done)
        ·repeat' (first | refine vs_ ?_ | ((first | refine vrr_ ?_ | fail) <;> (try simp (disch := first | omega | (simp only [List.length_set, List.length_append, List.length_cons, List.length_nil]; done) | (simp only [List.length_set, List.length_append, List.length_cons, List.length_nil]; omega)) only [hk, Option.isSome_some, hv1, ne_eq, not_true_eq_false, decide_false, Option.isSome_none, Option.getD_none, go_sem, ↓reduceIte])) | ((first | (refine cs_ ?_ ?_ <;> intro hc) | refine cj_ ?_ | fail | refine p1 h0 ?_ | refine qdi g1.ok ?_ | refine qb6 ?_ | refine qg4 ?_ | refine qcs ha rfl ?_) <;> (try refine ev_ ?_)) | with_reducible exact ti_)
         all_goals (try rw [qsu])
         all_goals first | exact ⟨rfl, rfl⟩ | rfl | (exfalso; clear p0 p1; simp_all; done)
      | some n =>
        simp only [Option.isSome_some, if_true, Option.getD_some] at ha a0 a1 b0 b1 ⊢
        by_cases h0 : v = []
        ·subst h0
         clear b0 b1 hcap
         simp only [List.nil_append, encs, List.length_cons, List.length_nil, Nat.zero_add] at a0 a1
         by_cases hq : B.2.1 = [n]
         ·repeat' (first | refine vs_ ?_ | ((first | refine vrr_ ?_ | fail) <;> (try simp only [hk, Option.isSome_some, hv1, ne_eq, not_true_eq_false, decide_false, go_sem, ↓reduceIte])) | ((first | (refine cs_ ?_ ?_ <;> intro hc) | refine cj_ ?_ | fail | refine p0 rfl ?_ | refine qdi g1.ok ?_ | refine qb6 ?_ | refine qg4 ?_ | refine qcs ha rfl ?_ | refine a0 _ _ _ _ _ hq ?_) <;> (try refine ev_ ?_)) | with_reducible exact ti_)
          all_goals (try rw [hq, ← qg6])
          all_goals first | exact ⟨rfl, rfl⟩ | rfl | (exfalso; clear p0 p1 a0 a1; simp_all; done)
         ·repeat' (first | refine vs_ ?_ | ((first | refine vrr_ ?_ | fail) <;> (try simp only [hk, Option.isSome_some, hv1, ne_eq, not_true_eq_false, decide_false, go_sem, ↓reduceIte])) | ((first | (refine cs_ ?_ ?_ <;> intro hc) | refine cj_ ?_ | fail | refine p0 rfl ?_ | refine qdi g1.ok ?_ | refine qb6 ?_ | refine qg4 ?_ | refine qcs ha rfl ?_ | refine a1 _ _ _ _ _ hq ?_) <;> (try refine ev_ ?_)) | with_reducible exact ti_)
          all_goals (try rw [qg6])
          all_goals first | exact ⟨rfl, rfl⟩ | rfl | (exfalso; clear p0 p1 a0 a1; simp_all; done)
        ·clear a0 a1 hcap1
         simp only [← qe, List.length_append, List.length_cons, List.length_nil, Nat.zero_add] at b0 b1
         by_cases hq : B.2.1 = v ++ [n]
         ·repeat' (first | refine vs_ ?_ | ((first | refine vrr_ ?_ | fail) <;> (try simp only [hk, Option.isSome_some, hv1, ne_eq, not_true_eq_false, decide_false, go_sem, ↓reduceIte])) | ((first | (refine cs_ ?_ ?_ <;> intro hc) | refine cj_ ?_ | fail | refine p1 h0 ?_ | refine qdi g1.ok ?_ | refine qb6 ?_ | refine qg4 ?_ | refine qcs ha rfl ?_ | refine b0 _ _ _ _ _ _ hq ?_) <;> (try refine ev_ ?_)) | with_reducible exact ti_)
          all_goals (try (rw [qe, qgf, hq]; exact ⟨qo _ _, rfl⟩))
          all_goals first | exact ⟨rfl, rfl⟩ | rfl | (exfalso; clear p0 p1 b0 b1; simp_all; done)
         ·repeat' (first | refine vs_ ?_ | ((first | refine vrr_ ?_ | fail) <;> (try simp only [hk, Option.isSome_some, hv1, ne_eq, not_true_eq_false, decide_false, go_sem, ↓reduceIte])) | ((first | (refine cs_ ?_ ?_ <;> intro hc) | refine cj_ ?_ | fail | refine p1 h0 ?_ | refine qdi g1.ok ?_ | refine qb6 ?_ | refine qg4 ?_ | refine qcs ha rfl ?_ | refine b1 _ _ _ _ _ _ hq ?_) <;> (try refine ev_ ?_)) | with_reducible exact ti_)
          all_goals (try rw [qgf])
          all_goals first | exact ⟨rfl, rfl⟩ | rfl | (exfalso; clear p0 p1 b0 b1; simp_all; done)
     ·rw [if_pos hv]
      clear ha
      by_cases h0 : v = []
      ·repeat' (first | refine vs_ ?_ | ((first | refine vrr_ ?_ | fail) <;> (try simp only [hk, hv, Option.isSome_some, go_sem, ↓reduceIte])) | ((first | (refine cs_ ?_ ?_ <;> intro hc) | refine cj_ ?_ | fail | refine p0 h0 ?_ | refine qdi g1.ok ?_ | refine qb6 ?_ | refine qg4 ?_) <;> (try refine ev_ ?_)) | with_reducible exact ti_)
       all_goals (try subst h0)
       all_goals (try rw [qq2])
       all_goals first | exact ⟨rfl, rfl⟩ | rfl | (exfalso; clear p0 p1; simp_all; done)
      ·repeat' (first | refine vs_ ?_ | ((first | refine vrr_ ?_ | fail) <;> (try simp only [hk, hv, Option.isSome_some, go_sem, ↓reduceIte])) | ((first | (refine cs_ ?_ ?_ <;> intro hc) | refine cj_ ?_ | fail | refine p1 h0 ?_ | refine qdi g1.ok ?_ | refine qb6 ?_ | refine qg4 ?_) <;> (try refine ev_ ?_)) | with_reducible exact ti_)
       all_goals (try rw [qsu])
       all_goals first | exact ⟨rfl, rfl⟩ | rfl | (exfalso; clear p0 p1; simp_all; done)
    ·simp only [if_neg h35, h35, false_and, if_false]
     have hbs := q90 31 a.1 (v ++ [a.2.getD N0]) g3 (by simp only [List.length_append, List.length_cons, List.length_nil]; unfold rest at *; omega)
     have a0 := fun e1 e2 e3 e4 Q => @qbmd 31 a.1 (v ++ [a.2.getD N0]) e1 e2 e3 e4 Q hbs
     have a1 := fun e1 e2 e3 e4 Q => @qbmn 31 a.1 (v ++ [a.2.getD N0]) e1 e2 e3 e4 Q hbs
     have b0 := fun e1 e2 e3 e4 e5 Q => @qbmc 31 a.1 (v ++ [a.2.getD N0]) e1 e2 e3 e4 e5 Q hbs
     have b1 := fun e1 e2 e3 e4 e5 Q => @qbmx 31 a.1 (v ++ [a.2.getD N0]) e1 e2 e3 e4 e5 Q hbs
     clear hbs
     generalize qds 31 a.1 (v ++ [a.2.getD N0]) = B at *
     obtain ⟨a, oa⟩ := a
     cases oa with
     | none =>
       simp only [Option.isSome_none, Bool.false_eq_true, if_false, Option.getD_none] at ha ⊢
       clear a0 a1 b0 b1
       by_cases h0 : v = []
       ·repeat' (first | refine vs_ ?_ | ((first | refine vrr_ ?_ | fail) <;> (try simp (disch := first | omega | (simp only [List.length_set, List.length_append, List.length_cons, List.length_nil]; done) | (simp only [List.length_set, List.length_append, List.length_cons, List.length_nil]; omega)) only [hk, Option.isSome_some, h35, Option.isSome_none, Option.getD_none, go_sem, ↓reduceIte])) | ((first | (refine cs_ ?_ ?_ <;> intro hc) | refine cj_ ?_ | fail | refine p0 h0 ?_ | refine qdi g1.ok ?_ | refine qb6 ?_ | refine qg4 ?_ | refine qcs ha rfl ?_) <;> (try refine ev_ ?_)) | with_reducible exact ti_)
        all_goals (try subst h0)
        all_goals (try rw [qq2])
        all_goals first | exact ⟨rfl, rfl⟩ | rfl | (exfalso; clear p0 p1; simp_all; done)
       ·repeat' (first | refine vs_ ?_ | ((first | refine vrr_ ?_ | fail) <;> (try simp (disch := first | omega | (simp only [List.length_set, List.length_append, List.length_cons, List.length_nil]; done) | (simp only [List.length_set, List.length_append, List.length_cons, List.length_nil]; omega)) only [hk, Option.isSome_some, h35, Option.isSome_none, Option.getD_none, go_sem, ↓reduceIte])) | ((first | (refine cs_ ?_ ?_ <;> intro hc) | refine cj_ ?_ | fail | refine p1 h0 ?_ | refine qdi g1.ok ?_ | refine qb6 ?_ | refine qg4 ?_ | refine qcs ha rfl ?_) <;> (try refine ev_ ?_)) | with_reducible exact ti_)
        all_goals (try rw [qsu])
        all_goals first | exact ⟨rfl, rfl⟩ | rfl | (exfalso; clear p0 p1; simp_all; done)
     | some n =>
       simp only [Option.isSome_some, if_true, Option.getD_some] at ha a0 a1 b0 b1 ⊢
       by_cases h0 : v = []
       ·subst h0
        clear b0 b1 hcap
        simp only [List.nil_append, encs, List.length_cons, List.length_nil, Nat.zero_add] at a0 a1
        by_cases hq : B.2.1 = [n]
        ·repeat' (first | refine vs_ ?_ | ((first | refine vrr_ ?_ | fail) <;> (try simp only [hk, Option.isSome_some, h35, go_sem, ↓reduceIte])) | ((first | (refine cs_ ?_ ?_ <;> intro hc) | refine cj_ ?_ | fail | refine p0 rfl ?_ | refine qdi g1.ok ?_ | refine qb6 ?_ | refine qg4 ?_ | refine qcs ha rfl ?_ | refine a0 _ _ _ _ _ hq ?_) <;> (try refine ev_ ?_)) | with_reducible exact ti_)
         all_goals (try rw [hq, ← qg6])
         all_goals first | exact ⟨rfl, rfl⟩ | rfl | (exfalso; clear p0 p1 a0 a1; simp_all; done)
        ·repeat' (first | refine vs_ ?_ | ((first | refine vrr_ ?_ | fail) <;> (try simp only [hk, Option.isSome_some, h35, go_sem, ↓reduceIte])) | ((first | (refine cs_ ?_ ?_ <;> intro hc) | refine cj_ ?_ | fail | refine p0 rfl ?_ | refine qdi g1.ok ?_ | refine qb6 ?_ | refine qg4 ?_ | refine qcs ha rfl ?_ | refine a1 _ _ _ _ _ hq ?_) <;> (try refine ev_ ?_)) | with_reducible exact ti_)
         all_goals (try rw [qg6])
         all_goals first | exact ⟨rfl, rfl⟩ | rfl | (exfalso; clear p0 p1 a0 a1; simp_all; done)
       ·clear a0 a1 hcap1
        simp only [← qe, List.length_append, List.length_cons, List.length_nil, Nat.zero_add] at b0 b1
        by_cases hq : B.2.1 = v ++ [n]
        ·repeat' (first | refine vs_ ?_ | ((first | refine vrr_ ?_ | fail) <;> (try simp only [hk, Option.isSome_some, h35, go_sem, ↓reduceIte])) | ((first | (refine cs_ ?_ ?_ <;> intro hc) | refine cj_ ?_ | fail | refine p1 h0 ?_ | refine qdi g1.ok ?_ | refine qb6 ?_ | refine qg4 ?_ | refine qcs ha rfl ?_ | refine b0 _ _ _ _ _ _ hq ?_) <;> (try refine ev_ ?_)) | with_reducible exact ti_)
         all_goals (try (rw [qe, qgf, hq]; exact ⟨qo _ _, rfl⟩))
         all_goals first | exact ⟨rfl, rfl⟩ | rfl | (exfalso; clear p0 p1 b0 b1; simp_all; done)
        ·repeat' (first | refine vs_ ?_ | ((first | refine vrr_ ?_ | fail) <;> (try simp only [hk, Option.isSome_some, h35, go_sem, ↓reduceIte])) | ((first | (refine cs_ ?_ ?_ <;> intro hc) | refine cj_ ?_ | fail | refine p1 h0 ?_ | refine qdi g1.ok ?_ | refine qb6 ?_ | refine qg4 ?_ | refine qcs ha rfl ?_ | refine b1 _ _ _ _ _ _ hq ?_) <;> (try refine ev_ ?_)) | with_reducible exact ti_)
         all_goals (try rw [qgf])
         all_goals first | exact ⟨rfl, rfl⟩ | rfl | (exfalso; clear p0 p1 b0 b1; simp_all; done)
   ·rw [if_neg hk]
    by_cases h0 : v = []
    ·repeat' (first | refine vs_ ?_ | ((first | refine vrr_ ?_ | fail) <;> (try simp only [hk, Option.isSome_some, go_sem, ↓reduceIte])) | ((first | (refine cs_ ?_ ?_ <;> intro hc) | refine cj_ ?_ | fail | refine p0 h0 ?_ | refine qdi g1.ok ?_) <;> (try refine ev_ ?_)) | with_reducible exact ti_)
     all_goals (try rw [qvp])
     all_goals first | exact ⟨rfl, rfl⟩ | rfl | (exfalso; clear p0 p1; simp_all; done)
    ·repeat' (first | refine vs_ ?_ | ((first | refine vrr_ ?_ | fail) <;> (try simp only [hk, Option.isSome_some, go_sem, ↓reduceIte])) | ((first | (refine cs_ ?_ ?_ <;> intro hc) | refine cj_ ?_ | fail | refine p1 h0 ?_ | refine qdi g1.ok ?_) <;> (try refine ev_ ?_)) | with_reducible exact ti_)
     all_goals (try rw [qvp])
     all_goals first | exact ⟨rfl, rfl⟩ | rfl | (exfalso; clear p0 p1; simp_all; done)
set_option maxRecDepth 4000

theorem qb3d (c : K) (hg : c.good) : qce Tryz.prog 17 (curE c) (curE (qdm c).1) [.ptr 0 0] (resB (qdm c).2) := by
 have g1 : (qf c qpk).1.good := (qk _ _).1 hg
 have g2 : (qf c qkb).1.good := (qk _ _).1 hg
 have g3 : (qf c qpi).1.good := (qk _ _).1 hg
 have h1 := qbns (qq c).pos _ g1
 have h2 := q8y 35 (qq c).pos _ g2
 have h3 := q8y 36 (qq c).pos _ g3
 have h4 := qxd c hg
 refine qp c0j 1 (by simp) (by simp) ?_
 unfold qdm
 unfold qpk qkb qpi posZ qbdh at *
 by_cases t1 : (qf c [100, 97, 116, 97]).2 = true
 ·rw [if_pos t1]
  repeat' (first | refine vs_ ?_ | ((first | refine vrr_ ?_ | fail) <;> (try simp only [t1, go_sem, ↓reduceIte])) | ((first | (refine cs_ ?_ ?_ <;> intro hc) | refine cj_ ?_ | fail | refine qb6 ?_ | refine qes hg.ok ?_ | refine ql4 h1 rfl ?_) <;> (try refine ev_ ?_)) | with_reducible exact ti_)
 ·have t1f : (qf c [100, 97, 116, 97]).2 = false := by simpa using t1
  have e1 := qc2 t1f
  rw [if_neg t1]
  by_cases t2 : (qf c [99, 108, 97, 115, 115]).2 = true
  ·rw [if_pos t2]
   repeat' (first | refine vs_ ?_ | ((first | refine vrr_ ?_ | fail) <;> (try simp only [t1f, e1, t2, go_sem, ↓reduceIte])) | ((first | (refine cs_ ?_ ?_ <;> intro hc) | refine cj_ ?_ | fail | refine qb6 ?_ | refine qes hg.ok ?_ | refine ql4 h2 rfl ?_) <;> (try refine ev_ ?_)) | with_reducible exact ti_)
  ·have t2f : (qf c [99, 108, 97, 115, 115]).2 = false := by simpa using t2
   have e2 := qc2 t2f
   rw [if_neg t2]
   by_cases t3 : (qf c [105, 110, 115, 116, 97, 110, 99, 101]).2 = true
   ·rw [if_pos t3]
    repeat' (first | refine vs_ ?_ | ((first | refine vrr_ ?_ | fail) <;> (try simp only [t1f, e1, t2f, e2, t3, go_sem, ↓reduceIte])) | ((first | (refine cs_ ?_ ?_ <;> intro hc) | refine cj_ ?_ | fail | refine qb6 ?_ | refine qes hg.ok ?_ | refine ql4 h3 rfl ?_) <;> (try refine ev_ ?_)) | with_reducible exact ti_)
   ·have t3f : (qf c [105, 110, 115, 116, 97, 110, 99, 101]).2 = false := by simpa using t3
    have e3 := qc2 t3f
    rw [if_neg t3]
    unfold ofO
    repeat' (first | refine vs_ ?_ | ((first | refine vrr_ ?_ | fail) <;> (try simp only [t1f, e1, t2f, e2, t3f, e3, go_sem, ↓reduceIte])) | ((first | (refine cs_ ?_ ?_ <;> intro hc) | refine cj_ ?_ | fail | refine qb6 ?_ | refine qes hg.ok ?_ | refine qcs h4 rfl ?_) <;> (try refine ev_ ?_)) | with_reducible exact ti_)
theorem qbmb {c : K} {L : List Ent} {Q : List Ent → VO → Prop} (hg : c.good) (hq : Q (curE (qdm c).1 :: L) (.val (resB (qdm c).2))) : VApp Tryz.prog (curE c :: L) (.fn 17 [] []) [.ptr 0 0] Q := ql4 (qb3d c hg) rfl hq
theorem qbkc (x : List UInt8) (b : Bool) (c : K) (hg : c.good) : VCalls Tryz.prog 16 [curE c, .blk [.ptr 0 0], .blk [.ptr 0 0], .blk [.str x], .blk [.bool b], .blk [.fn 34 [] [.ptr 4 0, .ptr 2 0, .ptr 3 0]]] [.ptr 1 0] fun H' o => H' = frP x b (qdm c).1 ∧ o = .val (resB (qdm c).2) := by
 refine qp c0k 6 (by simp) (by simp) ?_
 unfold frP
 repeat' (first | refine vs_ ?_ | ((first | refine vr_ ?_ | refine qbmb hg ?_ | (refine cs_ ?_ ?_ <;> intro hc) | refine cj_ ?_ | fail) <;> (try refine ev_ ?_)) | with_reducible exact ti_)
 all_goals exact ⟨rfl, rfl⟩
theorem qbdm (b : Bool) (c : K) (hg : c.good) : VCalls Tryz.prog 18 [curE c, .blk [.ptr 0 0], .blk [.ptr 0 0], .blk [.str [59]], .blk [.bool b], .blk [.fn 34 [] [.ptr 4 0, .ptr 2 0, .ptr 3 0]]] [.ptr 1 0, .ptr 5 0] fun H' o => H' = frP [59] (qh1 b c).1 (qh1 b c).2.1 ∧ o = .val (.bool (qh1 b c).2.2) := by
 refine qp c0l 6 (by simp) (by simp) ?_
 unfold frP qh1
 by_cases hi : (qq c).kind = 0
 ·rw [if_pos hi]
  repeat' (first | refine vs_ ?_ | ((first | refine vr_ ?_ | fail) <;> (try simp only [hi, ne_eq, not_true_eq_false, decide_false, go_sem, ↓reduceIte])) | ((first | (refine cs_ ?_ ?_ <;> intro hc) | refine cj_ ?_ | fail | refine qb6 ?_ | refine qjf hg ?_) <;> (try refine ev_ ?_)) | with_reducible exact ti_)
  all_goals first | exact ⟨rfl, rfl⟩ | (exfalso; simp_all; done) | (simp_all; done)
 ·rw [if_neg hi]
  by_cases ha : (qb5 [59] b c).2.2 = true
  ·repeat' (first | refine vs_ ?_ | ((first | refine vr_ ?_ | fail) <;> (try simp only [hi, ha, ne_eq, not_false_eq_true, decide_true, go_sem, ↓reduceIte])) | ((first | (refine cs_ ?_ ?_ <;> intro hc) | refine cj_ ?_ | fail | refine qb6 ?_ | refine qjf hg ?_) <;> (try refine ev_ ?_)) | with_reducible exact ti_)
   all_goals first | exact ⟨rfl, rfl⟩ | (exfalso; simp_all; done) | (simp_all; done)
  ·have ha2 : (qb5 [59] b c).2.2 = false := by simpa using ha
   repeat' (first | refine vs_ ?_ | ((first | refine vr_ ?_ | fail) <;> (try simp only [hi, ha2, ne_eq, not_false_eq_true, decide_true, go_sem, ↓reduceIte])) | ((first | (refine cs_ ?_ ?_ <;> intro hc) | refine cj_ ?_ | fail | refine qb6 ?_ | refine qjf hg ?_) <;> (try refine ev_ ?_)) | with_reducible exact ti_)
   all_goals first | exact ⟨rfl, rfl⟩ | (exfalso; simp_all; done) | (simp_all; done)
theorem qbal (c : K) (hg : c.good) : RowP qdm qh1 16 18 [59] false c :=
 q63 goes_decl monP (fun b c g _ => qbkc _ b c g) (fun b c g _ => qbdm b c g) false c hg (Nat.le_refl _)
section
variable {one : K → R3} {more : MF} {g1 g2 : FuncId} {x : List UInt8} {b : Bool} {c : K} {e2 : Ent} {Q : List Ent → VO → Prop}
theorem q8f (h : RowP one more g1 g2 x b c) (h0 : (rowS one more b c []).2.2.1 = []) (hq : Q [curE (rowS one more b c []).2.1, .blk [.ptr 0 0], e2, .blk [.ptr 0 0], .blk [.str x], .blk [.bool (rowS one more b c []).1], .blk [.fn 34 [] [.ptr 5 0, .ptr 3 0, .ptr 4 0]]] (.val (.tup [.nils, .bool (rowS one more b c []).2.2.2]))) :
 VApp Tryz.prog [curE c, .blk [.ptr 0 0], e2, .blk [.ptr 0 0], .blk [.str x], .blk [.bool b], .blk [.fn 34 [] [.ptr 5 0, .ptr 3 0, .ptr 4 0]]] (.fn 15 [] []) [.nils, .fn g1 [] [.ptr 1 0], .fn g2 [] [.ptr 1 0, .ptr 6 0]] Q :=
 qcd (first := []) (caps := []) (by
  simp only [List.nil_append, List.append_nil]
  refine qc0 (H0 := [curE c, .blk [.ptr 0 0], .blk [.ptr 0 0], .blk [.str x], .blk [.bool b], .blk [.fn 34 [] [.ptr 4 0, .ptr 2 0, .ptr 3 0]]]) (args0 := [.nils, .fn g1 [] [.ptr 1 0], .fn g2 [] [.ptr 1 0, .ptr 5 0]]) [0, 1, 3, 4, 5, 6] h (by simp) ?_ rfl rfl ?_
  ·(refine ev_ ?_; (try with_reducible exact ti_))
  rintro H1 o ⟨rfl, rfl⟩
  rw [h0]
  simpa [encs, qt, qr, qhe, qbw, sg', qpg, qs0, qlc, e_fn, AV.ren, AV.rens, VO.ren, qc9] using hq)
theorem q9h (h : RowP one more g1 g2 x b c) (h0 : (rowS one more b c []).2.2.1 ≠ []) (hq : Q [curE (rowS one more b c []).2.1, .blk [.ptr 0 0], e2, .blk [.ptr 0 0], .blk [.str x], .blk [.bool (rowS one more b c []).1], .blk [.fn 34 [] [.ptr 5 0, .ptr 3 0, .ptr 4 0]], .app 5 (encs (rowS one more b c []).2.2.1)] (.val (.tup [.row 7 (rowS one more b c []).2.2.1.length, .bool (rowS one more b c []).2.2.2]))) :
 VApp Tryz.prog [curE c, .blk [.ptr 0 0], e2, .blk [.ptr 0 0], .blk [.str x], .blk [.bool b], .blk [.fn 34 [] [.ptr 5 0, .ptr 3 0, .ptr 4 0]]] (.fn 15 [] []) [.nils, .fn g1 [] [.ptr 1 0], .fn g2 [] [.ptr 1 0, .ptr 6 0]] Q :=
 qcd (first := []) (caps := []) (by
  simp only [List.nil_append, List.append_nil]
  refine qc0 (H0 := [curE c, .blk [.ptr 0 0], .blk [.ptr 0 0], .blk [.str x], .blk [.bool b], .blk [.fn 34 [] [.ptr 4 0, .ptr 2 0, .ptr 3 0]]]) (args0 := [.nils, .fn g1 [] [.ptr 1 0], .fn g2 [] [.ptr 1 0, .ptr 5 0]]) [0, 1, 3, 4, 5, 6] h (by simp) ?_ rfl rfl ?_
  ·(refine ev_ ?_; (try with_reducible exact ti_))
  rintro H1 o ⟨rfl, rfl⟩
  rw [qbc (q9 h0), qbd (q9 h0), qx]
  simpa [qhe, qbw, sg', qpg, qs0, qlc, e_fn, qsg, AV.ren, AV.rens, VO.ren, qc9] using hq)
end
theorem qp4 (l : List N) : AV.agg [.int .i64 37, .int .i64 0, .int .i64 0, .str [], .sl 5 (encs l)] = enc (qpm l) := by simp only [qpm, enc]
theorem qqw : AV.agg [.int .i64 37, .int .i64 0, .int .i64 0, .str [], .sl 5 []] = enc (qpm []) := qp4 []
theorem qcah (c : K) (hg : c.good) : qce Tryz.prog 13 (curE c) (curE (qn1 c).1) [.ptr 0 0] (enc ((qn1 c).2.getD N0)) := by
 have hR := qbal c hg
 have i0 := fun e2 Q => @q8f _ _ _ _ _ _ _ e2 Q hR
 have i1 := fun e2 Q => @q9h _ _ _ _ _ _ _ e2 Q hR
 clear hR
 refine qp c0m 1 (by simp) (by simp) ?_
 unfold qn1
 generalize rowS qdm qh1 false c [] = r at *
 by_cases hq : r.2.2.1 = []
 ·repeat' (first | refine vs_ ?_ | ((first | refine vrr_ ?_ | refine qfe ?_ | refine i0 _ _ hq ?_ | (refine cs_ ?_ ?_ <;> intro hc) | refine cj_ ?_ | fail) <;> (try refine ev_ ?_)) | with_reducible exact ti_)
  all_goals (rw [Option.getD_some, hq, ← qqw]; first | done | rfl | exact ⟨rfl, rfl⟩)
 ·repeat' (first | refine vs_ ?_ | ((first | refine vrr_ ?_ | refine qfe ?_ | refine i1 _ _ hq ?_ | (refine cs_ ?_ ?_ <;> intro hc) | refine cj_ ?_ | fail) <;> (try refine ev_ ?_)) | with_reducible exact ti_)
  all_goals (rw [Option.getD_some, ← qp4]; first | done | rfl | exact ⟨rfl, rfl⟩)
theorem qbdu (c : K) (hg : c.good) : qce Tryz.prog 29 (curE c) (curE (decK c).1) [.ptr 0 0] (enc ((decK c).2.getD N0)) := by
 refine qp c0n 1 (by simp) (by simp) ?_
 unfold decK
 repeat' (first | refine vs_ ?_ | ((first | refine vr_ ?_ | refine qbmb hg ?_ | (refine cs_ ?_ ?_ <;> intro hc) | refine cj_ ?_ | fail) <;> (try refine ev_ ?_)) | with_reducible exact ti_)
 all_goals first | rfl | exact ⟨rfl, rfl⟩
theorem q3r {so : FuncId} {rd : K → K × Option N} {s : List UInt8} (hs : s.length ≤ 400000) (hrd : ∀ c : K, c.good → qce Tryz.prog so (curE c) (curE (rd c).1) [.ptr 0 0] (enc ((rd c).2.getD N0)))
 (hm : ∀ c, Mon c (rd c).1) (hsz : ∀ c, sz ((rd c).2.getD N0) ≤ 2 * rest c + 1) : qz Tryz.prog 12 [.str s, .fn so [] []] (resV (qym rd s)) := by
 have g := qq4 (qlx s).1
 have g2 : (rd (newK (lexV s).1)).1.good := (hm _).1 g
 have hsz' : sz ((rd (newK (lexV s).1)).2.getD N0) ≤ 1000000 := by
  have h1 := hsz (newK (lexV s).1)
  have h2 := qll (lexV s).1
  have h3 := (qlx s).2
  have h4 : rest (newK (lexV s).1) = (qhh (lexV s).1).length := rfl
  omega
 have hdp := q4v hsz'
 refine qj c0o (by simp) (by simp only [go_sem]) (by simp only [go_sem]) fun hw => ?_
 repeat' (first | refine vs_ ?_ | ((first | refine vr_ ?_ | refine qa (qzs s) fun _ => ?_ | refine qbf2 (qbj1 _ (qlx s).1) (qbi _ _) (by simp only [go_sem]) ?_ | refine q2o 1 (hrd _ g) (by rfl) (qbi _ _) (qbi _ _) (by rfl) (qo0 _ _) (by rfl) fun _ => ?_ | refine q2o 1 (q2l _ g2.ok) (by rfl) (qbi _ _) (qbi _ _) (by rfl) (by rfl) (by rfl) fun _ => ?_ | refine qa (qql (qbb6 _) (by rw [hdp])) fun _ => ?_ | refine qb (qzs s) ?_ | refine qb (qql (qbb6 _) (by rw [hdp])) ?_ | (refine cs_ ?_ ?_ <;> intro hc) | refine cj_ ?_ | fail) <;> (try refine ev_ ?_)) | with_reducible exact ti_)
 all_goals (try rw [qdt])
 all_goals unfold qym qkc
 all_goals (repeat' split)
 all_goals first | omega | rfl | (exfalso; omega) | simp_all [go_sem]
def qj2 (s : List UInt8) : N × Int × Int := qym qn1 s
def qml (s : List UInt8) : N × Int × Int := qym decK s
theorem qff (s : List UInt8) (hs : s.length ≤ 400000) : qz Tryz.prog 6 [.str s] (resV (qj2 s)) := by
 refine qj c0p (by simp) (by simp only [go_sem]) (by simp only [go_sem]) fun hw => ?_
 repeat' (first | refine vs_ ?_ | ((first | refine vr_ ?_ | refine qa (q3r hs qcah q60 q20) fun _ => ?_ | (refine cs_ ?_ ?_ <;> intro hc) | refine cj_ ?_ | fail) <;> (try refine ev_ ?_)) | with_reducible exact ti_)
 all_goals rfl
theorem qsj (s : List UInt8) (hs : s.length ≤ 400000) : qz Tryz.prog 10 [.str s] (resV (qml s)) := by
 refine qj c0q (by simp) (by simp only [go_sem]) (by simp only [go_sem]) fun hw => ?_
 repeat' (first | refine vs_ ?_ | ((first | refine vr_ ?_ | refine qa (q3r hs qbdu qbgg qbce) fun _ => ?_ | (refine cs_ ?_ ?_ <;> intro hc) | refine cj_ ?_ | fail) <;> (try refine ev_ ?_)) | with_reducible exact ti_)
 all_goals rfl
end Go.Proofs.YtfjbmjplnmaclaaGreat
