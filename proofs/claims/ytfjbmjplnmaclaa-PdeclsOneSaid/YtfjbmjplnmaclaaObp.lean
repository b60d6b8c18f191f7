/- Texts of this proof, joined. -/
import Derived.Test.YtfjbmjplnmaclaaObf

/- declarations: what is read (plain) -/
namespace Go.Proofs.Ytfjbmjplnmaclaa
open Go Go.RowKit Go.V
set_option linter.unusedVariables false
set_option linter.unusedSimpArgs false
set_option linter.unusedSectionVars false

/-- What tells whether one more comes: the flag, the cursor, the answer. -/
abbrev MF := Bool → K → Bool × K × Bool
def rowF (one : K → R3) (more : MF) : Nat → Bool → K → List N → Bool × RL
  | 0, b, c, _ => (b, c, [], false)
  | f + 1, b, c, acc =>
    if (more b c).2.2 = true then
      if (one (more b c).2.1).2.2 = true then rowF one more f (more b c).1 (one (more b c).2.1).1 (acc ++ [(one (more b c).2.1).2.1])
      else ((more b c).1, (one (more b c).2.1).1, acc, false)
    else ((more b c).1, (more b c).2.1, acc, true)
def rowS (one : K → R3) (more : MF) (b : Bool) (c : K) (acc : List N) : Bool × RL := rowF one more (rest c + 1) b c acc
def qf4 (p : K → Bool) : MF := fun b c => (b, c, p c)
def qbs (x : List UInt8) : MF := fun b c => if b = true then (b, (qs c x).1, (qs c x).2) else (true, c, true)
def qdf : MF := fun b c => if isK c [125] = true then (b, c, false) else ((qbs [59] b c).1, (qbs [59] b c).2.1, (qbs [59] b c).2.2 && !isK (qbs [59] b c).2.1 [125])
def qim : MF := fun b c => if (qw c).kind = 0 then (b, c, false) else ((qbs [59] b c).1, (qbs [59] b c).2.1, (qbs [59] b c).2.2 && !decide ((qw (qbs [59] b c).2.1).kind = 0))
def qfa (c : K) : Bool := decide ((qw c).kind = 1)
def qfz (c : K) : K × Option N := qbo (qbu (rest c + 2)) c
def qe3 (c : K) : K × Option N := qb2 (qfc (rest c + 2)) c
def qcz (c : K) : K × Option (List N) := q9 (qbu (rest c + 2)) c
def qdq (c : K) : R3 := ofO (qfz c)
def conN (t : T) (l : List N) : N := .mk 34 t.pos 0 t.text l
def conK (c : K) : R3 :=
  if (kindK c 2).2 = true then ((rowS qdq (qf4 begT) false (kindK c 2).1 []).2.1, conN (qef c 2) (rowS qdq (qf4 begT) false (kindK c 2).1 []).2.2.1, (rowS qdq (qf4 begT) false (kindK c 2).1 []).2.2.2)
  else ((kindK c 2).1, N0, false)
def qvm (p : Int) (t : T) (v l : List N) : N := .mk 33 p v.length t.text l
def qvo (p : Int) (t : T) (v : List N) (w : K × Bool) : R3 :=
  if w.2 = true then ((rowS conK (qbs [124]) false w.1 v).2.1, qvm p t v (rowS conK (qbs [124]) false w.1 v).2.2.1, (rowS conK (qbs [124]) false w.1 v).2.2.2)
  else (w.1, posN p, false)
def qwx (p : Int) (t : T) (r : RL) : R3 := qvo p t r.2.1 (qq r.1 [61])
def qkl (p : Int) (c : K) : R3 :=
  if (kindK c 2).2 = true then qwx p (qef c 2) (rowS qdq (qf4 qfa) false (kindK c 2).1 []).2
  else ((kindK c 2).1, posN p, false)
def qbf (kind : Int) (c : K) : R3 :=
  if (qe3 c).2.isSome = true ∧ ((qe3 c).2.getD N0).kind ≠ kind then (qd3 (qe3 c).1 5, (qe3 c).2.getD N0, false) else ofO (qe3 c)
def ql5 (r : RL) : RL := if r.2.2 = true then ((qq r.1 [125]).1, r.2.1, (qq r.1 [125]).2) else r
def qc9 (kind : Int) (c : K) (out : List N) : RL :=
  if (qq c [119, 104, 101, 114, 101]).2 = true then
    if (qq (qq c [119, 104, 101, 114, 101]).1 [123]).2 = true then ql5 (rowS (qbf kind) qdf false (qq (qq c [119, 104, 101, 114, 101]).1 [123]).1 out).2
    else ((qq (qq c [119, 104, 101, 114, 101]).1 [123]).1, out, false)
  else ((qq c [119, 104, 101, 114, 101]).1, out, false)
def q2i (k p : Int) : N := .mk k p 0 [] []
def qlo (k p : Int) (t : T) (v l : List N) : N := .mk k p v.length t.text l
def q1m (k p : Int) (t : T) (v : List N) (a : K × Option N) : R3 :=
  if a.2.isSome = true then ((qc9 (if k = 35 then 32 else 31) a.1 (v ++ [a.2.getD N0])).1, qlo k p t v (qc9 (if k = 35 then 32 else 31) a.1 (v ++ [a.2.getD N0])).2.1, (qc9 (if k = 35 then 32 else 31) a.1 (v ++ [a.2.getD N0])).2.2)
  else (a.1, qlo k p t v [], false)
def qw3 (k p : Int) (t : T) (v : List N) (c : K) : R3 :=
  if k = 35 ∧ (qw c).kind ≠ 1 then (qd3 c 5, qlo k p t v [], false) else q1m k p t v (qfz c)
def q15 (k p : Int) (c : K) (v : List N) : R3 :=
  if (kindK c 2).2 = true then qw3 k p (qef c 2) v (kindK c 2).1 else ((kindK c 2).1, q2i k p, false)
def qku (k p : Int) (c : K) : R3 :=
  if (qcz c).2.isSome = true then q15 k p (qcz c).1 ((qcz c).2.getD []) else ((qcz c).1, q2i k p, false)
def qne : List UInt8 := [100, 97, 116, 97]
def qil : List UInt8 := [99, 108, 97, 115, 115]
def qnk : List UInt8 := [105, 110, 115, 116, 97, 110, 99, 101]
def qdc (c : K) : R3 :=
  if (qs c qne).2 = true then qkl (qw c).pos (qs c qne).1
  else if (qs c qil).2 = true then qku 35 (qw c).pos (qs c qil).1
  else if (qs c qnk).2 = true then qku 36 (qw c).pos (qs c qnk).1
  else ofO (qe3 c)
def qj8 (l : List N) : N := .mk 37 0 0 [] l
def qma (c : K) : K × Option N := ((rowS qdc qim false c []).2.1, some (qj8 (rowS qdc qim false c []).2.2.1))
def decK (c : K) : K × Option N := ((qdc c).1, some (qdc c).2.1)

theorem qmd {c : K} {k : Int} (hk : k ≠ 0) (h : (kindK c k).2 = true) : rest (kindK c k).1 < rest c := by
  obtain ⟨h1, h2⟩ := qh4 h
  rw [(qxr h).1]
  have := qbj (c := c) (by rw [h2]; exact hk)
  simp only; omega
/-- What goes on, and is less where it has read. -/
structure Goes (one : K → R3) : Prop where
  m : ∀ c, Mon c (one c).1
  l : ∀ c, (one c).2.2 = true → rest (one c).1 < rest c
def MonM (more : MF) : Prop := ∀ b c, Mon c (more b c).2.1
theorem monA (p : K → Bool) : MonM (qf4 p) := fun b c => Mon.refl c
theorem monF (x : List UInt8) : MonM (qbs x) := fun b c => by
  unfold qbs
  split
  · exact qz c x
  · exact Mon.refl c
theorem monB : MonM qdf := fun b c => by
  unfold qdf
  split
  · exact Mon.refl c
  · exact monF [59] b c
theorem monP : MonM qim := fun b c => by
  unfold qim
  split
  · exact Mon.refl c
  · exact monF [59] b c
section
variable {one : K → R3} {more : MF} (ho : Goes one) (hm : MonM more)
include ho hm
theorem qyx : ∀ (f : Nat) (b : Bool) (c : K) (acc : List N), Mon c (rowF one more f b c acc).2.1
  | 0, b, c, acc => Mon.refl c
  | f + 1, b, c, acc => by
    rw [rowF]
    split
    · split
      · exact ((hm b c).trans (ho.m _)).trans (qyx f _ _ _)
      · exact (hm b c).trans (ho.m _)
    · exact hm b c
theorem qz1 : ∀ (f : Nat) (b : Bool) (c : K) (acc : List N), (rowF one more f b c acc).2.2.1.length + rest (rowF one more f b c acc).2.1 ≤ acc.length + rest c
  | 0, b, c, acc => by simp [rowF]
  | f + 1, b, c, acc => by
    have h3 := (hm b c).2.1
    have h4 := (ho.m (more b c).2.1).2.1
    rw [rowF]
    split
    · split
      · rename_i h
        have h1 := ho.l _ h
        have h2 := qz1 f (more b c).1 (one (more b c).2.1).1 (acc ++ [(one (more b c).2.1).2.1])
        simp only [List.length_append, List.length_cons, List.length_nil] at h2
        omega
      · simp only; omega
    · simp only; omega
/-- The size of what is read. -/
theorem q41 (hz : ∀ c, SzB c (one c)) : ∀ (f : Nat) (b : Bool) (c : K) (acc : List N), rest c < f → szs (rowF one more f b c acc).2.2.1 + 2 * rest (rowF one more f b c acc).2.1 ≤ szs acc + 2 * rest c
  | 0, b, c, acc => fun h => absurd h (by omega)
  | f + 1, b, c, acc => fun hf => by
    have h3 := (hm b c).2.1
    have h4 := (ho.m (more b c).2.1).2.1
    rw [rowF]
    split
    · split
      · rename_i h
        have h1 := ho.l _ h
        have h5 := hz _ h
        have h2 := q41 hz f (more b c).1 (one (more b c).2.1).1 (acc ++ [(one (more b c).2.1).2.1]) (by omega)
        rw [qfx] at h2
        simp only [szs] at h2
        omega
      · simp only; omega
    · simp only; omega
theorem qf9 (b : Bool) (c : K) (acc : List N) : Mon c (rowS one more b c acc).2.1 := qyx ho hm _ b c acc
theorem qbbf (b : Bool) (c : K) (acc : List N) : (rowS one more b c acc).2.2.1.length + rest (rowS one more b c acc).2.1 ≤ acc.length + rest c := qz1 ho hm _ b c acc
theorem qo2 (hz : ∀ c, SzB c (one c)) (b : Bool) (c : K) (acc : List N) : szs (rowS one more b c acc).2.2.1 + 2 * rest (rowS one more b c acc).2.1 ≤ szs acc + 2 * rest c := q41 ho hm hz _ b c acc (Nat.lt_succ_self _)
end
theorem goes_atom : Goes qdq := ⟨fun c => qea (qcn _) c, fun c h => qdv (qcn _) h⟩
theorem szA : ∀ c, SzO c (qfz c) := fun c n h => by
  have h1 := qdv (qcn (rest c + 2)) (c := c) (by unfold qfz at h; rw [h]; rfl)
  have h2 := qj7 (qlx (rest c + 2)) h
  unfold qfz at h ⊢
  omega
theorem qyp {c : K} (h : qfa c = true) : (qdq c).2.2 = true := by
  have hk : (qw c).kind = 1 := by simpa [qfa] using h
  unfold qdq ofO qfz
  rw [qbo, if_pos hk]; rfl
theorem qtf : ∀ (f : Nat) (b : Bool) (c : K) (acc : List N), rest c < f → (rowF qdq (qf4 qfa) f b c acc).2.2.2 = true
  | 0, _, _, _, h => absurd h (by omega)
  | f + 1, b, c, acc, hf => by
    rw [rowF]
    cases ha : qfa c with
    | false =>
      rw [if_neg (by show ¬ qfa c = true; rw [ha]; decide)]
    | true =>
      have h1 := goes_atom.l c (qyp ha)
      rw [if_pos (show (qf4 qfa b c).2.2 = true from ha), if_pos (show (qdq (qf4 qfa b c).2.1).2.2 = true from qyp ha)]
      exact qtf f _ _ _ (by show rest (qdq c).1 < f; omega)
theorem qyz {c : K} {r : K × Option N} (h : SzO c r) : SzB c (ofO r) := fun hs => qfl h hs
theorem goes_con : Goes conK where
  m := fun c => by
    unfold conK
    split
    · exact (qb8 c 2).trans (qf9 goes_atom (monA _) _ _ _)
    · exact qb8 c 2
  l := fun c h => by
    unfold conK at h ⊢
    split at h
    · rename_i h1
      rw [if_pos h1]
      have h2 := qmd (by decide) h1
      have h3 := (qf9 goes_atom (monA begT) false (kindK c 2).1 []).2.1
      simp only; omega
    · cases h
theorem qbsh : ∀ c, SzB c (conK c) := fun c h => by
  unfold conK at h ⊢
  split at h
  · rename_i h1
    rw [if_pos h1]
    have h2 := qmd (by decide) h1
    have h3 := qo2 goes_atom (monA begT) (fun c => qyz (szA c)) false (kindK c 2).1 []
    simp only [szs] at h3
    simp only [conN, qin]; omega
  · cases h
theorem qln (c : K) : Mon c (qe3 c).1 := qgk (qjd _) c
theorem qrc {c : K} (h : (qe3 c).2.isSome = true) : rest (qe3 c).1 < rest c := qi3 (qjd _) h
theorem qt3 : ∀ c, SzO c (qe3 c) := fun c => qzc (qbc6 _) c
theorem q6p (p : Int) (t : T) (v : List N) (w : K × Bool) : Mon w.1 (qvo p t v w).1 := by
  unfold qvo
  split
  · exact qf9 goes_con (monF _) _ _ _
  · exact Mon.refl _
theorem qo1 (p : Int) (c : K) : Mon c (qkl p c).1 := by
  unfold qkl qwx
  split
  · exact (((qb8 c 2).trans (qf9 goes_atom (monA _) _ _ _)).trans (qr _ _)).trans (q6p _ _ _ _)
  · exact qb8 c 2
theorem qeg (kind : Int) : Goes (qbf kind) where
  m := fun c => by
    unfold qbf
    split
    · exact (qln c).trans (qd9 _ _)
    · exact qln c
  l := fun c h => by
    unfold qbf at h ⊢
    split at h
    · cases h
    · rename_i h1
      rw [if_neg h1]
      exact qrc h
theorem q6z (kind : Int) : ∀ c, SzB c (qbf kind c) := fun c h => by
  unfold qbf at h ⊢
  split at h
  · cases h
  · rename_i h1
    rw [if_neg h1]
    exact qyz (qt3 c) h
theorem qwl (r : RL) : Mon r.1 (ql5 r).1 := by
  unfold ql5
  split
  · exact qr _ _
  · exact Mon.refl _
theorem q5v (kind : Int) (c : K) (out : List N) : Mon c (qc9 kind c out).1 := by
  unfold qc9
  split
  · split
    · exact (((qr c _).trans (qr _ _)).trans (qf9 (qeg kind) monB _ _ _)).trans (qwl _)
    · exact (qr c _).trans (qr _ _)
  · exact qr c _
theorem qbch (kind : Int) (c : K) (out : List N) : szs (qc9 kind c out).2.1 + 2 * rest (qc9 kind c out).1 ≤ szs out + 2 * rest c := by
  have h1 := (qr c [119, 104, 101, 114, 101]).2.1
  have h2 := (qr (qq c [119, 104, 101, 114, 101]).1 [123]).2.1
  unfold qc9
  split
  · split
    · have h3 := qo2 (qeg kind) monB (q6z kind) false (qq (qq c [119, 104, 101, 114, 101]).1 [123]).1 out
      have h4 := (qwl (rowS (qbf kind) qdf false (qq (qq c [119, 104, 101, 114, 101]).1 [123]).1 out).2).2.1
      unfold ql5 at h4 ⊢
      split
      · rename_i h5
        rw [if_pos h5] at h4
        simp only at h4 ⊢; omega
      · omega
    · simp only; omega
  · simp only; omega
theorem qhx (c : K) : Mon c (qfz c).1 := qea (qcn _) c
theorem qgf (c : K) : Mon c (qcz c).1 := qew (qcn _) c
theorem q5f (k p : Int) (t : T) (v : List N) (c : K) : Mon c (qw3 k p t v c).1 := by
  unfold qw3 q1m
  split
  · exact qd9 _ _
  · split
    · exact (qhx c).trans (q5v _ _ _)
    · exact qhx c
theorem qlu (k p : Int) (c : K) : Mon c (qku k p c).1 := by
  unfold qku q15
  split
  · split
    · exact ((qgf c).trans (qb8 _ _)).trans (q5f _ _ _ _ _)
    · exact (qgf c).trans (qb8 _ _)
  · exact qgf c
theorem goes_decl : Goes qdc where
  m := fun c => by
    unfold qdc
    split
    · exact (qz c _).trans (qo1 _ _)
    · split
      · exact (qz c _).trans (qlu _ _ _)
      · split
        · exact (qz c _).trans (qlu _ _ _)
        · exact qln c
  l := fun c h => by
    unfold qdc at h ⊢
    split at h
    · rename_i h1
      rw [if_pos h1]
      have h2 := qcs h1
      have h3 := (qo1 (qw c).pos (qs c qne).1).2.1
      omega
    · rename_i h1
      rw [if_neg h1]
      split at h
      · rename_i h1
        rw [if_pos h1]
        have h2 := qcs h1
        have h3 := (qlu 35 (qw c).pos (qs c qil).1).2.1
        omega
      · rename_i h1
        rw [if_neg h1]
        split at h
        · rename_i h1
          rw [if_pos h1]
          have h2 := qcs h1
          have h3 := (qlu 36 (qw c).pos (qs c qnk).1).2.1
          omega
        · rename_i h1
          rw [if_neg h1]
          exact qrc h
theorem q1k {c : K} {l : List N} (h : (qcz c).2 = some l) : l.length ≤ rest c := qmy (qcn _) h
theorem qwa {c : K} {l : List N} (h : (qcz c).2 = some l) : szs l + rest (qcz c).1 ≤ rest c := by
  have h0 := (qz c [40]).2.1
  have hm := qcn (rest c + 2)
  unfold qcz at h ⊢
  unfold q9 at h ⊢
  split at h
  · rename_i h1
    rw [if_pos h1]
    have h2 := qky h
    have hB : szs l + rest (qe9 (qbu (rest c + 2)) c).1 ≤ rest c := by
      unfold qe9 at h2 ⊢
      split at h2
      · rename_i h3
        rw [if_pos h3]
        cases h2
        simp only [szs]; omega
      · rename_i h3
        rw [if_neg h3]
        have h4 := qqi (qlx (rest c + 2)) _ _ _ _ _ h2
        simp only [szs] at h4
        omega
    unfold qej at h ⊢
    generalize qe9 (qbu (rest c + 2)) c = r at *
    have h5 := (qr r.1 [41]).2.1
    have h6 := (qr (qq r.1 [41]).1 [61, 62]).2.1
    have h7 := (qr r.1 [61, 62]).2.1
    repeat' split
    all_goals (simp only; omega)
  · rename_i h1
    rw [if_neg h1]
    simp only at h ⊢
    split at h
    · cases h
    · cases h; simp only [szs]; omega
theorem qz5 (p : Int) (c : K) : sz (qkl p c).2.1 + 2 * rest (qkl p c).1 ≤ 2 * rest c + 1 := by
  have h1 := (qb8 c 2).2.1
  have h2 := (qo1 p c).2.1
  unfold qkl qwx qvo at h2 ⊢
  split
  · have h3 := qo2 goes_atom (monA qfa) (fun c => qyz (szA c)) false (kindK c 2).1 []
    generalize rowS qdq (qf4 qfa) false (kindK c 2).1 [] = r at *
    have h4 := (qr r.2.1 [61]).2.1
    simp only [szs] at h3
    split
    · have h5 := qo2 goes_con (monF [124]) qbsh false (qq r.2.1 [61]).1 r.2.2.1
      simp only [qvm, qin]; omega
    · simp only [posN, qin, szs]; omega
  · simp only [posN, qin, szs]; omega
theorem qoc (k p : Int) (c : K) : sz (qku k p c).2.1 + 2 * rest (qku k p c).1 ≤ 2 * rest c + 1 := by
  have h1 := (qgf c).2.1
  unfold qku q15
  split
  · rename_i h2
    obtain ⟨l, hl⟩ := Option.isSome_iff_exists.1 h2
    have h3 := qwa hl
    rw [hl, Option.getD_some]
    have h4 := (qb8 (qcz c).1 2).2.1
    split
    · unfold qw3 q1m
      generalize (kindK (qcz c).1 2).1 = d at *
      split
      · have := (qd9 d 5).2.1
        simp only [qlo, qin, szs]; omega
      · have h5 := (qhx d).2.1
        split
        · rename_i h6
          have h7 := qfl (szA d) h6
          have h8 := qbch (if k = 35 then 32 else 31) (qfz d).1 (l ++ [(qfz d).2.getD N0])
          rw [qfx] at h8
          simp only [szs] at h8
          simp only [qlo, qin]; omega
        · simp only [qlo, qin, szs]; omega
    · simp only [q2i, qin, szs]; omega
  · simp only [q2i, qin, szs]; omega
theorem q8s (c : K) : sz (qdc c).2.1 + 2 * rest (qdc c).1 ≤ 2 * rest c + 1 := by
  have hb := qt3 c
  have hb2 := (qln c).2.1
  unfold qdc
  split
  · have h1 := (qz c qne).2.1
    have := qz5 (qw c).pos (qs c qne).1
    omega
  · split
    · have h1 := (qz c qil).2.1
      have := qoc 35 (qw c).pos (qs c qil).1
      omega
    · split
      · have h1 := (qz c qnk).2.1
        have := qoc 36 (qw c).pos (qs c qnk).1
        omega
      · unfold ofO
        cases hq : (qe3 c).2 with
        | none =>
          have : sz N0 = 1 := by rw [qjh]; rfl
          simp only [Option.getD_none]; omega
        | some n =>
          have := hb n hq
          simp only [Option.getD_some]; omega
theorem q6j : ∀ c, SzB c (qdc c) := fun c h => by
  unfold qdc at h ⊢
  split at h
  · rename_i h1
    rw [if_pos h1]
    have h2 := qcs h1
    have := qz5 (qw c).pos (qs c qne).1
    omega
  · rename_i h1
    rw [if_neg h1]
    split at h
    · rename_i h1
      rw [if_pos h1]
      have h2 := qcs h1
      have := qoc 35 (qw c).pos (qs c qil).1
      omega
    · rename_i h1
      rw [if_neg h1]
      split at h
      · rename_i h1
        rw [if_pos h1]
        have h2 := qcs h1
        have := qoc 36 (qw c).pos (qs c qnk).1
        omega
      · rename_i h1
        rw [if_neg h1]
        exact qyz (qt3 c) h
theorem qui (c : K) : Mon c (qma c).1 := qf9 goes_decl monP _ _ _
theorem qy5 (c : K) : Mon c (decK c).1 := goes_decl.m c
theorem qy7 (c : K) : sz ((qma c).2.getD N0) ≤ 2 * rest c + 1 := by
  have := qo2 goes_decl monP q6j false c []
  simp only [szs] at this
  simp only [qma, Option.getD_some, qj8, qin]; omega
theorem q3g (c : K) : sz ((decK c).2.getD N0) ≤ 2 * rest c + 1 := by
  have := q8s c
  simp only [decK, Option.getD_some]; omega
end Go.Proofs.Ytfjbmjplnmaclaa

/- declarations: the program: rows (printed by tools/rows.py) -/
set_option maxRecDepth 4000
namespace Go.Proofs.Ytfjbmjplnmaclaa
open Go Go.RowKit Go.V
set_option linter.unusedVariables false
set_option linter.unusedSimpArgs false

def frA (b : Bool) (c : K) : List Ent := [curE c, .blk [.ptr 0 0]]
theorem q0u (b : Bool) (c : K) : (frA b c).all (Ent.bd 2) = true := by
  simp only [frA, List.all_cons, List.all_nil, qbe, Bool.true_and, Bool.and_true]; rfl
theorem qnq {g : FuncId} {b : Bool} {c c' : K} {r : N × Bool} {L : List Ent} {Q : List Ent → VO → Prop} (h : VCalls Try.prog g [curE c, .blk [.ptr 0 0]] [.ptr 1 0] fun H' o => H' = (frA b c') ∧ o = .val (resB r)) (hq : Q (curE c' :: .blk [.ptr 0 0] :: L) (.val (resB r))) :
    VApp Try.prog (curE c :: .blk [.ptr 0 0] :: L) (.fn g [] [.ptr 1 0]) [] Q :=
  qcb (first := []) (caps := [.ptr 1 0]) (by
    simp only [List.nil_append]
    refine qc6 (H0 := [curE c, .blk [.ptr 0 0]]) (L := L) h (q0u b c) rfl ?_
    rintro H1 o ⟨rfl, rfl⟩
    exact ⟨rfl, q0u _ _, qml _ _, hq⟩)
theorem qhr {g : FuncId} {b' a : Bool} {c c' : K} {L : List Ent} {Q : List Ent → VO → Prop} (h : VCalls Try.prog g [curE c, .blk [.ptr 0 0]] [.ptr 1 0] fun H' o => H' = (frA b' c') ∧ o = .val (.bool a)) (hq : Q (curE c' :: .blk [.ptr 0 0] :: L) (.val (.bool a))) :
    VApp Try.prog (curE c :: .blk [.ptr 0 0] :: L) (.fn g [] [.ptr 1 0]) [] Q :=
  qcb (first := []) (caps := [.ptr 1 0]) (by
    simp only [List.nil_append]
    refine qc6 (H0 := [curE c, .blk [.ptr 0 0]]) (L := L) h (q0u false c) rfl ?_
    rintro H1 o ⟨rfl, rfl⟩
    exact ⟨rfl, q0u _ _, rfl, hq⟩)
/-- What a row's reading does, from nothing on. -/
def RowA (one : K → R3) (more : MF) (g1 g2 : FuncId) (b : Bool) (c : K) : Prop :=
  VCalls Try.prog 15 [curE c, .blk [.ptr 0 0]] [.nils, .fn g1 [] [.ptr 1 0], .fn g2 [] [.ptr 1 0]] fun H' o =>
    H' = curE (rowS one more b c []).2.1 :: .blk [.ptr 0 0] :: accE 5 (encs (rowS one more b c []).2.2.1) ∧ o = .val (.tup [accV 2 (encs (rowS one more b c []).2.2.1), .bool (rowS one more b c []).2.2.2])
def qwk (g1 g2 : FuncId) (s : Bool × Nat × K × List N) : AF × List Ent :=
  (⟨[(0, accV 2 (encs s.2.2.2)), (1, .fn g1 [] [.ptr 1 0]), (2, .fn g2 [] [.ptr 1 0])], []⟩, curE s.2.2.1 :: .blk [.ptr 0 0] :: accE 5 (encs s.2.2.2))
theorem quq {one : K → R3} {more : MF} {g1 g2 : FuncId} {n : Nat} (ho : Goes one) (hm : MonM more)
    (h1 : ∀ b c, c.good → rest c ≤ n → VCalls Try.prog g1 [curE c, .blk [.ptr 0 0]] [.ptr 1 0] fun H' o => H' = (frA b (one c).1) ∧ o = .val (resB (one c).2))
    (h2 : ∀ b c, c.good → rest c ≤ n → VCalls Try.prog g2 [curE c, .blk [.ptr 0 0]] [.ptr 1 0] fun H' o => H' = (frA (more b c).1 (more b c).2.1) ∧ o = .val (.bool (more b c).2.2))
    (b0 : Bool) (c0 : K) (hg : c0.good) (hr : rest c0 ≤ n) : RowA one more g1 g2 b0 c0 := by
  unfold RowA
  have hl : ([] : List N).length + rest c0 ≤ 1048578 := by have h9 := hg.rest; unfold rest; simp only [List.length_nil]; omega
  obtain ⟨kk, hk1, hk2, hk0⟩ : ∃ k : Nat, ((rowS one more b0 c0 []).2.2.1 = [] → k = 2) ∧ ((rowS one more b0 c0 []).2.2.1 ≠ [] → k = 3) ∧ 2 ≤ k := by
    by_cases h : (rowS one more b0 c0 []).2.2.1 = []
    · exact ⟨2, fun _ => rfl, fun g => absurd h g, Nat.le_refl _⟩
    · exact ⟨3, fun g => absurd g h, fun _ => rfl, Nat.le_succ _⟩
  refine qdm c0dn kk (by simpa using hk0) (by simp) ?_
  generalize htg : rowS one more b0 c0 [] = tg at hk1 hk2 ⊢
  unfold rowS at htg
  repeat' (first | refine qj ?_ | refine ql ?_ | ((first | refine qn ?_ | refine qk ?_ | refine qu ?_ | refine qh ?_ | refine qg ?_ | ((first | refine qe ?_ ?_ | refine qd ?_ ?_) <;> intro hc <;> (try simp only [hc]) <;> (try simp only [qb, qa, decide_eq_true_eq, decide_eq_false_iff_not, Bool.and_eq_true] at hc)) | refine And.intro (by first | assumption | omega | (have := qf (by assumption); omega) | (unfold qp; omega)) ?_ | simp (disch := omega) only [qc] | simp (disch := omega) only [qo]) <;> (try simp only [go_sem, ↓reduceIte, Nat.reduceEqDiff, Nat.reduceAdd, Nat.reduceSub, Nat.reduceMul, Nat.reduceLT, Nat.reduceLeDiff, reduceCtorEq, Int.reduceToNat])))
  refine qcy (S := Bool × Nat × K × List N) (fun s => s.2.2.1.good ∧ rest s.2.2.1 ≤ n ∧ rowF one more s.2.1 s.1 s.2.2.1 s.2.2.2 = tg ∧ rest s.2.2.1 < s.2.1 ∧ s.2.2.2.length + rest s.2.2.1 ≤ 1048578) (qwk g1 g2) (fun s => rest s.2.2.1) ?_ ?_
  · refine qcd (b0, rest c0 + 1, c0, []) [0, 1] ⟨hg, hr, htg, Nat.lt_succ_self _, hl⟩ rfl (by simp) ?_ ?_ ?_
    all_goals simp only [qwk, encs, qbq, qbt]
    all_goals simp only [go_sem, ↓reduceIte, Nat.reduceEqDiff, Nat.reduceAdd, Nat.reduceSub, Nat.reduceMul, Nat.reduceLT, Nat.reduceLeDiff, reduceCtorEq, Int.reduceToNat]
  · rintro ⟨fl, fu, d, acc⟩ ⟨i1, i2, i3, i4, i5⟩
    simp only at i1 i2 i3 i4 i5
    obtain ⟨fu, rfl⟩ : ∃ k, fu = k + 1 := ⟨fu - 1, by omega⟩
    rw [rowF] at i3
    have hcap : qp (acc.length + 1) 64 := capN (by omega)
    have hmore := h2 fl d i1 i2
    have g1 := (hm fl d).1 i1
    have r1 := (hm fl d).2.1
    have hone := h1 (more fl d).1 (more fl d).2.1 g1 (by omega)
    have g2 := (ho.m (more fl d).2.1).1 g1
    have r2 := (ho.m (more fl d).2.1).2.1
    have hlt := ho.l (more fl d).2.1
    unfold qwk
    generalize more fl d = M at *
    obtain ⟨fl', d', ans⟩ := M
    simp only at hmore g1 r1 hone g2 r2 hlt i3
    generalize one d' = r at *
    obtain ⟨e, y, ok⟩ := r
    simp only at hone g2 r2 hlt i3
    cases ans with
    | false =>
      rw [if_neg (by simp)] at i3
      subst i3
      by_cases h0 : acc = []
      · subst h0
        obtain rfl := hk1 rfl
        simp only [encs, qbq, qbt]
        repeat' (first | refine qj ?_ | refine ql ?_ | ((first | refine qn ?_ | refine qk ?_ | refine qu ?_ | refine qh ?_ | refine qg ?_ | refine qhr hmore ?_ | ((first | refine qe ?_ ?_ | refine qd ?_ ?_) <;> intro hc <;> (try simp only [hc]) <;> (try simp only [qb, qa, decide_eq_true_eq, decide_eq_false_iff_not, Bool.and_eq_true] at hc)) | refine And.intro (by first | assumption | omega | (have := qf (by assumption); omega) | (unfold qp; omega)) ?_ | simp (disch := omega) only [qc] | simp (disch := omega) only [qo]) <;> (try simp only [go_sem, ↓reduceIte, Nat.reduceEqDiff, Nat.reduceAdd, Nat.reduceSub, Nat.reduceMul, Nat.reduceLT, Nat.reduceLeDiff, reduceCtorEq, Int.reduceToNat])))
        all_goals first | exact ⟨rfl, rfl⟩
      · have hne := qbl h0
        obtain rfl := hk2 h0
        simp only [qby hne, qbz hne, qbm]
        repeat' (first | refine qj ?_ | refine ql ?_ | ((first | refine qn ?_ | refine qk ?_ | refine qu ?_ | refine qh ?_ | refine qg ?_ | refine qhr hmore ?_ | ((first | refine qe ?_ ?_ | refine qd ?_ ?_) <;> intro hc <;> (try simp only [hc]) <;> (try simp only [qb, qa, decide_eq_true_eq, decide_eq_false_iff_not, Bool.and_eq_true] at hc)) | refine And.intro (by first | assumption | omega | (have := qf (by assumption); omega) | (unfold qp; omega)) ?_ | simp (disch := omega) only [qc] | simp (disch := omega) only [qo]) <;> (try simp only [go_sem, ↓reduceIte, Nat.reduceEqDiff, Nat.reduceAdd, Nat.reduceSub, Nat.reduceMul, Nat.reduceLT, Nat.reduceLeDiff, reduceCtorEq, Int.reduceToNat])))
        all_goals first | exact ⟨rfl, rfl⟩
    | true =>
      rw [if_pos rfl] at i3
      cases ok with
      | false =>
        rw [if_neg (by simp)] at i3
        subst i3
        by_cases h0 : acc = []
        · subst h0
          obtain rfl := hk1 rfl
          simp only [encs, qbq, qbt]
          repeat' (first | refine qj ?_ | refine ql ?_ | ((first | refine qn ?_ | refine qk ?_ | refine qu ?_ | refine qh ?_ | refine qg ?_ | refine qhr hmore ?_ | refine qnq hone ?_ | ((first | refine qe ?_ ?_ | refine qd ?_ ?_) <;> intro hc <;> (try simp only [hc]) <;> (try simp only [qb, qa, decide_eq_true_eq, decide_eq_false_iff_not, Bool.and_eq_true] at hc)) | refine And.intro (by first | assumption | omega | (have := qf (by assumption); omega) | (unfold qp; omega)) ?_ | simp (disch := omega) only [qc] | simp (disch := omega) only [qo]) <;> (try simp only [go_sem, ↓reduceIte, Nat.reduceEqDiff, Nat.reduceAdd, Nat.reduceSub, Nat.reduceMul, Nat.reduceLT, Nat.reduceLeDiff, reduceCtorEq, Int.reduceToNat])))
          all_goals first | exact ⟨rfl, rfl⟩
        · have hne := qbl h0
          obtain rfl := hk2 h0
          simp only [qby hne, qbz hne, qbm]
          repeat' (first | refine qj ?_ | refine ql ?_ | ((first | refine qn ?_ | refine qk ?_ | refine qu ?_ | refine qh ?_ | refine qg ?_ | refine qhr hmore ?_ | refine qnq hone ?_ | ((first | refine qe ?_ ?_ | refine qd ?_ ?_) <;> intro hc <;> (try simp only [hc]) <;> (try simp only [qb, qa, decide_eq_true_eq, decide_eq_false_iff_not, Bool.and_eq_true] at hc)) | refine And.intro (by first | assumption | omega | (have := qf (by assumption); omega) | (unfold qp; omega)) ?_ | simp (disch := omega) only [qc] | simp (disch := omega) only [qo]) <;> (try simp only [go_sem, ↓reduceIte, Nat.reduceEqDiff, Nat.reduceAdd, Nat.reduceSub, Nat.reduceMul, Nat.reduceLT, Nat.reduceLeDiff, reduceCtorEq, Int.reduceToNat])))
          all_goals first | exact ⟨rfl, rfl⟩
      | true =>
        have hlt := hlt rfl
        rw [if_pos rfl] at i3
        have hne3 : ¬ acc ++ [y] = [] := by simp
        have hlen : (acc ++ [y]).length = acc.length + 1 := by simp
        by_cases h0 : acc = []
        · subst h0
          simp only [encs, qbq, qbt]
          repeat' (first | refine qj ?_ | refine ql ?_ | ((first | refine qn ?_ | refine qk ?_ | refine qu ?_ | refine qh ?_ | refine qg ?_ | refine qhr hmore ?_ | refine qnq hone ?_ | ((first | refine qe ?_ ?_ | refine qd ?_ ?_) <;> intro hc <;> (try simp only [hc]) <;> (try simp only [qb, qa, decide_eq_true_eq, decide_eq_false_iff_not, Bool.and_eq_true] at hc)) | refine And.intro (by first | assumption | omega | (have := qf (by assumption); omega) | (unfold qp; omega)) ?_ | simp (disch := omega) only [qc] | simp (disch := omega) only [qo]) <;> (try simp only [go_sem, ↓reduceIte, Nat.reduceEqDiff, Nat.reduceAdd, Nat.reduceSub, Nat.reduceMul, Nat.reduceLT, Nat.reduceLeDiff, reduceCtorEq, Int.reduceToNat])))
          refine qcd (fl', fu, e, [] ++ [y]) [0, 1, 3] ⟨⟨g2, by simp only; omega, i3, by simp only; omega, by simp only [hlen]; omega⟩, by simp only; omega⟩ rfl (by simp) ?_ ?_ ?_
          all_goals simp only [qwk, qbz (qbl hne3), qby (qbl hne3), qbm, hlen, ← qt]
          all_goals simp only [go_sem, ↓reduceIte, Nat.reduceEqDiff, Nat.reduceAdd, Nat.reduceSub, Nat.reduceMul, Nat.reduceLT, Nat.reduceLeDiff, reduceCtorEq, Int.reduceToNat]
          all_goals first | (rw [qt]; exact qbc _ _) | exact ⟨rfl, rfl⟩ | rfl | (rw [qt, qbc, qbw]; exact ⟨rfl, rfl⟩)
        · have hne := qbl h0
          simp only [qby hne, qbz hne, qbm]
          repeat' (first | refine qj ?_ | refine ql ?_ | ((first | refine qn ?_ | refine qk ?_ | refine qu ?_ | refine qh ?_ | refine qg ?_ | refine qhr hmore ?_ | refine qnq hone ?_ | ((first | refine qe ?_ ?_ | refine qd ?_ ?_) <;> intro hc <;> (try simp only [hc]) <;> (try simp only [qb, qa, decide_eq_true_eq, decide_eq_false_iff_not, Bool.and_eq_true] at hc)) | refine And.intro (by first | assumption | omega | (have := qf (by assumption); omega) | (unfold qp; omega)) ?_ | simp (disch := omega) only [qc] | simp (disch := omega) only [qo]) <;> (try simp only [go_sem, ↓reduceIte, Nat.reduceEqDiff, Nat.reduceAdd, Nat.reduceSub, Nat.reduceMul, Nat.reduceLT, Nat.reduceLeDiff, reduceCtorEq, Int.reduceToNat])))
          refine qcd (fl', fu, e, acc ++ [y]) [0, 1, 4] ⟨⟨g2, by simp only; omega, i3, by simp only; omega, by simp only [hlen]; omega⟩, by simp only; omega⟩ rfl (by simp) ?_ ?_ ?_
          all_goals simp only [qwk, qbz (qbl hne3), qby (qbl hne3), qbm, hlen, ← qt]
          all_goals simp only [go_sem, ↓reduceIte, Nat.reduceEqDiff, Nat.reduceAdd, Nat.reduceSub, Nat.reduceMul, Nat.reduceLT, Nat.reduceLeDiff, reduceCtorEq, Int.reduceToNat]
          all_goals first | (rw [qt]; exact qbc _ _) | exact ⟨rfl, rfl⟩ | rfl | (rw [qt, qbc, qbw]; exact ⟨rfl, rfl⟩)

def frD (x : List UInt8) (b : Bool) (c : K) : List Ent := [curE c, .blk [.ptr 0 0], .blk [.ptr 0 0], .blk [.str x], .blk [.bool b]]
theorem q0f {x : List UInt8} (b : Bool) (c : K) : (frD x b c).all (Ent.bd 5) = true := by
  simp only [frD, List.all_cons, List.all_nil, qbe, Bool.true_and, Bool.and_true]; rfl
theorem qg3 {g : FuncId} {x : List UInt8} {b : Bool} {c c' : K} {r : N × Bool} {L : List Ent} {Q : List Ent → VO → Prop} (h : VCalls Try.prog g [curE c, .blk [.ptr 0 0], .blk [.ptr 0 0], .blk [.str x], .blk [.bool b]] [.ptr 1 0] fun H' o => H' = (frD x b c') ∧ o = .val (resB r)) (hq : Q (curE c' :: .blk [.ptr 0 0] :: .blk [.ptr 0 0] :: .blk [.str x] :: .blk [.bool b] :: L) (.val (resB r))) :
    VApp Try.prog (curE c :: .blk [.ptr 0 0] :: .blk [.ptr 0 0] :: .blk [.str x] :: .blk [.bool b] :: L) (.fn g [] [.ptr 1 0]) [] Q :=
  qcb (first := []) (caps := [.ptr 1 0]) (by
    simp only [List.nil_append]
    refine qc6 (H0 := [curE c, .blk [.ptr 0 0], .blk [.ptr 0 0], .blk [.str x], .blk [.bool b]]) (L := L) h (q0f (x := x) b c) rfl ?_
    rintro H1 o ⟨rfl, rfl⟩
    exact ⟨rfl, q0f _ _, qml _ _, hq⟩)
theorem qdy {g : FuncId} {x : List UInt8} {b b' a : Bool} {c c' : K} {L : List Ent} {Q : List Ent → VO → Prop} (h : VCalls Try.prog g [curE c, .blk [.ptr 0 0], .blk [.ptr 0 0], .blk [.str x], .blk [.bool b]] [.ptr 4 0, .ptr 2 0, .ptr 3 0] fun H' o => H' = (frD x b' c') ∧ o = .val (.bool a)) (hq : Q (curE c' :: .blk [.ptr 0 0] :: .blk [.ptr 0 0] :: .blk [.str x] :: .blk [.bool b'] :: L) (.val (.bool a))) :
    VApp Try.prog (curE c :: .blk [.ptr 0 0] :: .blk [.ptr 0 0] :: .blk [.str x] :: .blk [.bool b] :: L) (.fn g [] [.ptr 4 0, .ptr 2 0, .ptr 3 0]) [] Q :=
  qcb (first := []) (caps := [.ptr 4 0, .ptr 2 0, .ptr 3 0]) (by
    simp only [List.nil_append]
    refine qc6 (H0 := [curE c, .blk [.ptr 0 0], .blk [.ptr 0 0], .blk [.str x], .blk [.bool b]]) (L := L) h (q0f (x := x) b c) rfl ?_
    rintro H1 o ⟨rfl, rfl⟩
    exact ⟨rfl, q0f _ _, rfl, hq⟩)
/-- What a row's reading does, from nothing on. -/
def RowD (one : K → R3) (more : MF) (g1 g2 : FuncId) (x : List UInt8) (b : Bool) (c : K) : Prop :=
  VCalls Try.prog 15 [curE c, .blk [.ptr 0 0], .blk [.ptr 0 0], .blk [.str x], .blk [.bool b]] [.nils, .fn g1 [] [.ptr 1 0], .fn g2 [] [.ptr 4 0, .ptr 2 0, .ptr 3 0]] fun H' o =>
    H' = curE (rowS one more b c []).2.1 :: .blk [.ptr 0 0] :: .blk [.ptr 0 0] :: .blk [.str x] :: .blk [.bool (rowS one more b c []).1] :: accE 5 (encs (rowS one more b c []).2.2.1) ∧ o = .val (.tup [accV 5 (encs (rowS one more b c []).2.2.1), .bool (rowS one more b c []).2.2.2])
def quy (g1 g2 : FuncId) (x : List UInt8) (s : Bool × Nat × K × List N) : AF × List Ent :=
  (⟨[(0, accV 5 (encs s.2.2.2)), (1, .fn g1 [] [.ptr 1 0]), (2, .fn g2 [] [.ptr 4 0, .ptr 2 0, .ptr 3 0])], []⟩, curE s.2.2.1 :: .blk [.ptr 0 0] :: .blk [.ptr 0 0] :: .blk [.str x] :: .blk [.bool s.1] :: accE 5 (encs s.2.2.2))
theorem q20 {one : K → R3} {more : MF} {g1 g2 : FuncId} {x : List UInt8} {n : Nat} (ho : Goes one) (hm : MonM more)
    (h1 : ∀ b c, c.good → rest c ≤ n → VCalls Try.prog g1 [curE c, .blk [.ptr 0 0], .blk [.ptr 0 0], .blk [.str x], .blk [.bool b]] [.ptr 1 0] fun H' o => H' = (frD x b (one c).1) ∧ o = .val (resB (one c).2))
    (h2 : ∀ b c, c.good → rest c ≤ n → VCalls Try.prog g2 [curE c, .blk [.ptr 0 0], .blk [.ptr 0 0], .blk [.str x], .blk [.bool b]] [.ptr 4 0, .ptr 2 0, .ptr 3 0] fun H' o => H' = (frD x (more b c).1 (more b c).2.1) ∧ o = .val (.bool (more b c).2.2))
    (b0 : Bool) (c0 : K) (hg : c0.good) (hr : rest c0 ≤ n) : RowD one more g1 g2 x b0 c0 := by
  unfold RowD
  have hl : ([] : List N).length + rest c0 ≤ 1048578 := by have h9 := hg.rest; unfold rest; simp only [List.length_nil]; omega
  obtain ⟨kk, hk1, hk2, hk0⟩ : ∃ k : Nat, ((rowS one more b0 c0 []).2.2.1 = [] → k = 5) ∧ ((rowS one more b0 c0 []).2.2.1 ≠ [] → k = 6) ∧ 5 ≤ k := by
    by_cases h : (rowS one more b0 c0 []).2.2.1 = []
    · exact ⟨5, fun _ => rfl, fun g => absurd h g, Nat.le_refl _⟩
    · exact ⟨6, fun g => absurd g h, fun _ => rfl, Nat.le_succ _⟩
  refine qdm c0dn kk (by simpa using hk0) (by simp) ?_
  generalize htg : rowS one more b0 c0 [] = tg at hk1 hk2 ⊢
  unfold rowS at htg
  repeat' (first | refine qj ?_ | refine ql ?_ | ((first | refine qn ?_ | refine qk ?_ | refine qu ?_ | refine qh ?_ | refine qg ?_ | ((first | refine qe ?_ ?_ | refine qd ?_ ?_) <;> intro hc <;> (try simp only [hc]) <;> (try simp only [qb, qa, decide_eq_true_eq, decide_eq_false_iff_not, Bool.and_eq_true] at hc)) | refine And.intro (by first | assumption | omega | (have := qf (by assumption); omega) | (unfold qp; omega)) ?_ | simp (disch := omega) only [qc] | simp (disch := omega) only [qo]) <;> (try simp only [go_sem, ↓reduceIte, Nat.reduceEqDiff, Nat.reduceAdd, Nat.reduceSub, Nat.reduceMul, Nat.reduceLT, Nat.reduceLeDiff, reduceCtorEq, Int.reduceToNat])))
  refine qcy (S := Bool × Nat × K × List N) (fun s => s.2.2.1.good ∧ rest s.2.2.1 ≤ n ∧ rowF one more s.2.1 s.1 s.2.2.1 s.2.2.2 = tg ∧ rest s.2.2.1 < s.2.1 ∧ s.2.2.2.length + rest s.2.2.1 ≤ 1048578) (quy g1 g2 x) (fun s => rest s.2.2.1) ?_ ?_
  · refine qcd (b0, rest c0 + 1, c0, []) [0, 1, 2, 3, 4] ⟨hg, hr, htg, Nat.lt_succ_self _, hl⟩ rfl (by simp) ?_ ?_ ?_
    all_goals simp only [quy, encs, qbq, qbt]
    all_goals simp only [go_sem, ↓reduceIte, Nat.reduceEqDiff, Nat.reduceAdd, Nat.reduceSub, Nat.reduceMul, Nat.reduceLT, Nat.reduceLeDiff, reduceCtorEq, Int.reduceToNat]
  · rintro ⟨fl, fu, d, acc⟩ ⟨i1, i2, i3, i4, i5⟩
    simp only at i1 i2 i3 i4 i5
    obtain ⟨fu, rfl⟩ : ∃ k, fu = k + 1 := ⟨fu - 1, by omega⟩
    rw [rowF] at i3
    have hcap : qp (acc.length + 1) 64 := capN (by omega)
    have hmore := h2 fl d i1 i2
    have g1 := (hm fl d).1 i1
    have r1 := (hm fl d).2.1
    have hone := h1 (more fl d).1 (more fl d).2.1 g1 (by omega)
    have g2 := (ho.m (more fl d).2.1).1 g1
    have r2 := (ho.m (more fl d).2.1).2.1
    have hlt := ho.l (more fl d).2.1
    unfold quy
    generalize more fl d = M at *
    obtain ⟨fl', d', ans⟩ := M
    simp only at hmore g1 r1 hone g2 r2 hlt i3
    generalize one d' = r at *
    obtain ⟨e, y, ok⟩ := r
    simp only at hone g2 r2 hlt i3
    cases ans with
    | false =>
      rw [if_neg (by simp)] at i3
      subst i3
      by_cases h0 : acc = []
      · subst h0
        obtain rfl := hk1 rfl
        simp only [encs, qbq, qbt]
        repeat' (first | refine qj ?_ | refine ql ?_ | ((first | refine qn ?_ | refine qk ?_ | refine qu ?_ | refine qh ?_ | refine qg ?_ | refine qdy hmore ?_ | ((first | refine qe ?_ ?_ | refine qd ?_ ?_) <;> intro hc <;> (try simp only [hc]) <;> (try simp only [qb, qa, decide_eq_true_eq, decide_eq_false_iff_not, Bool.and_eq_true] at hc)) | refine And.intro (by first | assumption | omega | (have := qf (by assumption); omega) | (unfold qp; omega)) ?_ | simp (disch := omega) only [qc] | simp (disch := omega) only [qo]) <;> (try simp only [go_sem, ↓reduceIte, Nat.reduceEqDiff, Nat.reduceAdd, Nat.reduceSub, Nat.reduceMul, Nat.reduceLT, Nat.reduceLeDiff, reduceCtorEq, Int.reduceToNat])))
        all_goals first | exact ⟨rfl, rfl⟩
      · have hne := qbl h0
        obtain rfl := hk2 h0
        simp only [qby hne, qbz hne, qbm]
        repeat' (first | refine qj ?_ | refine ql ?_ | ((first | refine qn ?_ | refine qk ?_ | refine qu ?_ | refine qh ?_ | refine qg ?_ | refine qdy hmore ?_ | ((first | refine qe ?_ ?_ | refine qd ?_ ?_) <;> intro hc <;> (try simp only [hc]) <;> (try simp only [qb, qa, decide_eq_true_eq, decide_eq_false_iff_not, Bool.and_eq_true] at hc)) | refine And.intro (by first | assumption | omega | (have := qf (by assumption); omega) | (unfold qp; omega)) ?_ | simp (disch := omega) only [qc] | simp (disch := omega) only [qo]) <;> (try simp only [go_sem, ↓reduceIte, Nat.reduceEqDiff, Nat.reduceAdd, Nat.reduceSub, Nat.reduceMul, Nat.reduceLT, Nat.reduceLeDiff, reduceCtorEq, Int.reduceToNat])))
        all_goals first | exact ⟨rfl, rfl⟩
    | true =>
      rw [if_pos rfl] at i3
      cases ok with
      | false =>
        rw [if_neg (by simp)] at i3
        subst i3
        by_cases h0 : acc = []
        · subst h0
          obtain rfl := hk1 rfl
          simp only [encs, qbq, qbt]
          repeat' (first | refine qj ?_ | refine ql ?_ | ((first | refine qn ?_ | refine qk ?_ | refine qu ?_ | refine qh ?_ | refine qg ?_ | refine qdy hmore ?_ | refine qg3 hone ?_ | ((first | refine qe ?_ ?_ | refine qd ?_ ?_) <;> intro hc <;> (try simp only [hc]) <;> (try simp only [qb, qa, decide_eq_true_eq, decide_eq_false_iff_not, Bool.and_eq_true] at hc)) | refine And.intro (by first | assumption | omega | (have := qf (by assumption); omega) | (unfold qp; omega)) ?_ | simp (disch := omega) only [qc] | simp (disch := omega) only [qo]) <;> (try simp only [go_sem, ↓reduceIte, Nat.reduceEqDiff, Nat.reduceAdd, Nat.reduceSub, Nat.reduceMul, Nat.reduceLT, Nat.reduceLeDiff, reduceCtorEq, Int.reduceToNat])))
          all_goals first | exact ⟨rfl, rfl⟩
        · have hne := qbl h0
          obtain rfl := hk2 h0
          simp only [qby hne, qbz hne, qbm]
          repeat' (first | refine qj ?_ | refine ql ?_ | ((first | refine qn ?_ | refine qk ?_ | refine qu ?_ | refine qh ?_ | refine qg ?_ | refine qdy hmore ?_ | refine qg3 hone ?_ | ((first | refine qe ?_ ?_ | refine qd ?_ ?_) <;> intro hc <;> (try simp only [hc]) <;> (try simp only [qb, qa, decide_eq_true_eq, decide_eq_false_iff_not, Bool.and_eq_true] at hc)) | refine And.intro (by first | assumption | omega | (have := qf (by assumption); omega) | (unfold qp; omega)) ?_ | simp (disch := omega) only [qc] | simp (disch := omega) only [qo]) <;> (try simp only [go_sem, ↓reduceIte, Nat.reduceEqDiff, Nat.reduceAdd, Nat.reduceSub, Nat.reduceMul, Nat.reduceLT, Nat.reduceLeDiff, reduceCtorEq, Int.reduceToNat])))
          all_goals first | exact ⟨rfl, rfl⟩
      | true =>
        have hlt := hlt rfl
        rw [if_pos rfl] at i3
        have hne3 : ¬ acc ++ [y] = [] := by simp
        have hlen : (acc ++ [y]).length = acc.length + 1 := by simp
        by_cases h0 : acc = []
        · subst h0
          simp only [encs, qbq, qbt]
          repeat' (first | refine qj ?_ | refine ql ?_ | ((first | refine qn ?_ | refine qk ?_ | refine qu ?_ | refine qh ?_ | refine qg ?_ | refine qdy hmore ?_ | refine qg3 hone ?_ | ((first | refine qe ?_ ?_ | refine qd ?_ ?_) <;> intro hc <;> (try simp only [hc]) <;> (try simp only [qb, qa, decide_eq_true_eq, decide_eq_false_iff_not, Bool.and_eq_true] at hc)) | refine And.intro (by first | assumption | omega | (have := qf (by assumption); omega) | (unfold qp; omega)) ?_ | simp (disch := omega) only [qc] | simp (disch := omega) only [qo]) <;> (try simp only [go_sem, ↓reduceIte, Nat.reduceEqDiff, Nat.reduceAdd, Nat.reduceSub, Nat.reduceMul, Nat.reduceLT, Nat.reduceLeDiff, reduceCtorEq, Int.reduceToNat])))
          refine qcd (fl', fu, e, [] ++ [y]) [0, 1, 2, 3, 4, 6] ⟨⟨g2, by simp only; omega, i3, by simp only; omega, by simp only [hlen]; omega⟩, by simp only; omega⟩ rfl (by simp) ?_ ?_ ?_
          all_goals simp only [quy, qbz (qbl hne3), qby (qbl hne3), qbm, hlen, ← qt]
          all_goals simp only [go_sem, ↓reduceIte, Nat.reduceEqDiff, Nat.reduceAdd, Nat.reduceSub, Nat.reduceMul, Nat.reduceLT, Nat.reduceLeDiff, reduceCtorEq, Int.reduceToNat]
          all_goals first | (rw [qt]; exact qbc _ _) | exact ⟨rfl, rfl⟩ | rfl | (rw [qt, qbc, qbw]; exact ⟨rfl, rfl⟩)
        · have hne := qbl h0
          simp only [qby hne, qbz hne, qbm]
          repeat' (first | refine qj ?_ | refine ql ?_ | ((first | refine qn ?_ | refine qk ?_ | refine qu ?_ | refine qh ?_ | refine qg ?_ | refine qdy hmore ?_ | refine qg3 hone ?_ | ((first | refine qe ?_ ?_ | refine qd ?_ ?_) <;> intro hc <;> (try simp only [hc]) <;> (try simp only [qb, qa, decide_eq_true_eq, decide_eq_false_iff_not, Bool.and_eq_true] at hc)) | refine And.intro (by first | assumption | omega | (have := qf (by assumption); omega) | (unfold qp; omega)) ?_ | simp (disch := omega) only [qc] | simp (disch := omega) only [qo]) <;> (try simp only [go_sem, ↓reduceIte, Nat.reduceEqDiff, Nat.reduceAdd, Nat.reduceSub, Nat.reduceMul, Nat.reduceLT, Nat.reduceLeDiff, reduceCtorEq, Int.reduceToNat])))
          refine qcd (fl', fu, e, acc ++ [y]) [0, 1, 2, 3, 4, 7] ⟨⟨g2, by simp only; omega, i3, by simp only; omega, by simp only [hlen]; omega⟩, by simp only; omega⟩ rfl (by simp) ?_ ?_ ?_
          all_goals simp only [quy, qbz (qbl hne3), qby (qbl hne3), qbm, hlen, ← qt]
          all_goals simp only [go_sem, ↓reduceIte, Nat.reduceEqDiff, Nat.reduceAdd, Nat.reduceSub, Nat.reduceMul, Nat.reduceLT, Nat.reduceLeDiff, reduceCtorEq, Int.reduceToNat]
          all_goals first | (rw [qt]; exact qbc _ _) | exact ⟨rfl, rfl⟩ | rfl | (rw [qt, qbc, qbw]; exact ⟨rfl, rfl⟩)
/-- What a row's reading does, where something is there. -/
def RovD (one : K → R3) (more : MF) (g1 g2 : FuncId) (x : List UInt8) (b : Bool) (c : K) (a0 : List N) : Prop :=
  VCalls Try.prog 15 (curE c :: .blk [.ptr 0 0] :: .blk [.ptr 0 0] :: .blk [.str x] :: .blk [.bool b] :: [.app 5 (encs a0)]) [.row 5 a0.length, .fn g1 [] [.ptr 1 0], .fn g2 [] [.ptr 4 0, .ptr 2 0, .ptr 3 0]] fun H' o =>
    ((rowS one more b c a0).2.2.1 = a0 → H' = curE (rowS one more b c a0).2.1 :: .blk [.ptr 0 0] :: .blk [.ptr 0 0] :: .blk [.str x] :: .blk [.bool (rowS one more b c a0).1] :: [.app 5 (encs a0)] ∧ o = .val (.tup [.row 5 a0.length, .bool (rowS one more b c a0).2.2.2])) ∧
    ((rowS one more b c a0).2.2.1 ≠ a0 → H' = curE (rowS one more b c a0).2.1 :: .blk [.ptr 0 0] :: .blk [.ptr 0 0] :: .blk [.str x] :: .blk [.bool (rowS one more b c a0).1] :: .dead :: [.app 5 (encs (rowS one more b c a0).2.2.1)] ∧ o = .val (.tup [.row 6 (rowS one more b c a0).2.2.1.length, .bool (rowS one more b c a0).2.2.2]))
def qvj (g1 g2 : FuncId) (x : List UInt8) (a0 : List N) (s : Bool × Nat × K × List N) : AF × List Ent :=
  if s.2.2.2.length = a0.length then (⟨[(0, .row 5 a0.length), (1, .fn g1 [] [.ptr 1 0]), (2, .fn g2 [] [.ptr 4 0, .ptr 2 0, .ptr 3 0])], []⟩, curE s.2.2.1 :: .blk [.ptr 0 0] :: .blk [.ptr 0 0] :: .blk [.str x] :: .blk [.bool s.1] :: [.app 5 (encs a0)])
  else (⟨[(0, .row 6 s.2.2.2.length), (1, .fn g1 [] [.ptr 1 0]), (2, .fn g2 [] [.ptr 4 0, .ptr 2 0, .ptr 3 0])], []⟩, curE s.2.2.1 :: .blk [.ptr 0 0] :: .blk [.ptr 0 0] :: .blk [.str x] :: .blk [.bool s.1] :: .dead :: [.app 5 (encs s.2.2.2)])
theorem q45 {one : K → R3} {more : MF} {g1 g2 : FuncId} {x : List UInt8} {n : Nat} (ho : Goes one) (hm : MonM more)
    (h1 : ∀ b c, c.good → rest c ≤ n → VCalls Try.prog g1 [curE c, .blk [.ptr 0 0], .blk [.ptr 0 0], .blk [.str x], .blk [.bool b]] [.ptr 1 0] fun H' o => H' = (frD x b (one c).1) ∧ o = .val (resB (one c).2))
    (h2 : ∀ b c, c.good → rest c ≤ n → VCalls Try.prog g2 [curE c, .blk [.ptr 0 0], .blk [.ptr 0 0], .blk [.str x], .blk [.bool b]] [.ptr 4 0, .ptr 2 0, .ptr 3 0] fun H' o => H' = (frD x (more b c).1 (more b c).2.1) ∧ o = .val (.bool (more b c).2.2))
    (b0 : Bool) (c0 : K) (a0 : List N) (hg : c0.good) (hr : rest c0 ≤ n) (hl : a0.length + rest c0 ≤ 1048578) : RovD one more g1 g2 x b0 c0 a0 := by
  unfold RovD
  obtain ⟨kk, hk1, hk2, hk0⟩ : ∃ k : Nat, ((rowS one more b0 c0 a0).2.2.1 = a0 → k = 6) ∧ ((rowS one more b0 c0 a0).2.2.1 ≠ a0 → k = 7) ∧ 6 ≤ k := by
    by_cases h : (rowS one more b0 c0 a0).2.2.1 = a0
    · exact ⟨6, fun _ => rfl, fun g => absurd h g, Nat.le_refl _⟩
    · exact ⟨7, fun g => absurd g h, fun _ => rfl, Nat.le_succ _⟩
  refine qdm c0dn kk (by simpa using hk0) (by simp) ?_
  generalize htg : rowS one more b0 c0 a0 = tg at hk1 hk2 ⊢
  unfold rowS at htg
  repeat' (first | refine qj ?_ | refine ql ?_ | ((first | refine qn ?_ | refine qk ?_ | refine qu ?_ | refine qh ?_ | refine qg ?_ | ((first | refine qe ?_ ?_ | refine qd ?_ ?_) <;> intro hc <;> (try simp only [hc]) <;> (try simp only [qb, qa, decide_eq_true_eq, decide_eq_false_iff_not, Bool.and_eq_true] at hc)) | refine And.intro (by first | assumption | omega | (have := qf (by assumption); omega) | (unfold qp; omega)) ?_ | simp (disch := omega) only [qc] | simp (disch := omega) only [qo]) <;> (try simp only [go_sem, ↓reduceIte, Nat.reduceEqDiff, Nat.reduceAdd, Nat.reduceSub, Nat.reduceMul, Nat.reduceLT, Nat.reduceLeDiff, reduceCtorEq, Int.reduceToNat])))
  refine qcy (S := Bool × Nat × K × List N) (fun s => s.2.2.1.good ∧ rest s.2.2.1 ≤ n ∧ rowF one more s.2.1 s.1 s.2.2.1 s.2.2.2 = tg ∧ rest s.2.2.1 < s.2.1 ∧ s.2.2.2.length + rest s.2.2.1 ≤ 1048578 ∧ a0.length ≤ s.2.2.2.length ∧ (s.2.2.2.length = a0.length → s.2.2.2 = a0)) (qvj g1 g2 x a0) (fun s => rest s.2.2.1) ?_ ?_
  · refine qcd (b0, rest c0 + 1, c0, a0) [0, 1, 2, 3, 4, 5] ⟨hg, hr, htg, Nat.lt_succ_self _, hl, Nat.le_refl _, fun _ => rfl⟩ rfl (by simp) ?_ ?_ ?_
    all_goals simp only [qvj, if_true]
    all_goals simp only [go_sem, ↓reduceIte, Nat.reduceEqDiff, Nat.reduceAdd, Nat.reduceSub, Nat.reduceMul, Nat.reduceLT, Nat.reduceLeDiff, reduceCtorEq, Int.reduceToNat]
    all_goals first | exact qbc _ _ | exact ⟨rfl, rfl⟩ | rfl | (rw [qbc, qbw]; exact ⟨rfl, rfl⟩)
  · rintro ⟨fl, fu, d, acc⟩ ⟨i1, i2, i3, i4, i5, i6, i7⟩
    simp only at i6 i7
    simp only at i1 i2 i3 i4 i5
    obtain ⟨fu, rfl⟩ : ∃ k, fu = k + 1 := ⟨fu - 1, by omega⟩
    rw [rowF] at i3
    have hcap : qp (acc.length + 1) 64 := capN (by omega)
    have hmore := h2 fl d i1 i2
    have g1 := (hm fl d).1 i1
    have r1 := (hm fl d).2.1
    have hone := h1 (more fl d).1 (more fl d).2.1 g1 (by omega)
    have g2 := (ho.m (more fl d).2.1).1 g1
    have r2 := (ho.m (more fl d).2.1).2.1
    have hlt := ho.l (more fl d).2.1
    unfold qvj
    generalize more fl d = M at *
    obtain ⟨fl', d', ans⟩ := M
    simp only at hmore g1 r1 hone g2 r2 hlt i3
    generalize one d' = r at *
    obtain ⟨e, y, ok⟩ := r
    simp only at hone g2 r2 hlt i3
    have hneA : ¬ acc.length + 1 = a0.length := by omega
    have hlen : (acc ++ [y]).length = acc.length + 1 := by simp
    by_cases h0 : acc = a0
    · have h0l : acc.length = a0.length := by rw [h0]
      simp only [if_pos h0l]
      cases ans with
      | false =>
        rw [if_neg (by simp)] at i3
        subst i3
        obtain rfl := hk1 h0
        repeat' (first | refine qj ?_ | refine ql ?_ | ((first | refine qn ?_ | refine qk ?_ | refine qu ?_ | refine qh ?_ | refine qg ?_ | refine qdy hmore ?_ | ((first | refine qe ?_ ?_ | refine qd ?_ ?_) <;> intro hc <;> (try simp only [hc]) <;> (try simp only [qb, qa, decide_eq_true_eq, decide_eq_false_iff_not, Bool.and_eq_true] at hc)) | refine And.intro (by first | assumption | omega | (have := qf (by assumption); omega) | (unfold qp; omega)) ?_ | simp (disch := omega) only [qc] | simp (disch := omega) only [qo]) <;> (try simp only [go_sem, ↓reduceIte, Nat.reduceEqDiff, Nat.reduceAdd, Nat.reduceSub, Nat.reduceMul, Nat.reduceLT, Nat.reduceLeDiff, reduceCtorEq, Int.reduceToNat])))
        all_goals exact ⟨fun _ => by first | trivial | exact ⟨rfl, rfl⟩, fun g => absurd h0 g⟩
      | true =>
        rw [if_pos rfl] at i3
        cases ok with
        | false =>
          rw [if_neg (by simp)] at i3
          subst i3
          obtain rfl := hk1 h0
          repeat' (first | refine qj ?_ | refine ql ?_ | ((first | refine qn ?_ | refine qk ?_ | refine qu ?_ | refine qh ?_ | refine qg ?_ | refine qdy hmore ?_ | refine qg3 hone ?_ | ((first | refine qe ?_ ?_ | refine qd ?_ ?_) <;> intro hc <;> (try simp only [hc]) <;> (try simp only [qb, qa, decide_eq_true_eq, decide_eq_false_iff_not, Bool.and_eq_true] at hc)) | refine And.intro (by first | assumption | omega | (have := qf (by assumption); omega) | (unfold qp; omega)) ?_ | simp (disch := omega) only [qc] | simp (disch := omega) only [qo]) <;> (try simp only [go_sem, ↓reduceIte, Nat.reduceEqDiff, Nat.reduceAdd, Nat.reduceSub, Nat.reduceMul, Nat.reduceLT, Nat.reduceLeDiff, reduceCtorEq, Int.reduceToNat])))
          all_goals exact ⟨fun _ => by first | trivial | exact ⟨rfl, rfl⟩, fun g => absurd h0 g⟩
        | true =>
          have hlt := hlt rfl
          rw [if_pos rfl] at i3
          subst h0
          repeat' (first | refine qj ?_ | refine ql ?_ | ((first | refine qn ?_ | refine qk ?_ | refine qu ?_ | refine qh ?_ | refine qg ?_ | refine qdy hmore ?_ | refine qg3 hone ?_ | ((first | refine qe ?_ ?_ | refine qd ?_ ?_) <;> intro hc <;> (try simp only [hc]) <;> (try simp only [qb, qa, decide_eq_true_eq, decide_eq_false_iff_not, Bool.and_eq_true] at hc)) | refine And.intro (by first | assumption | omega | (have := qf (by assumption); omega) | (unfold qp; omega)) ?_ | simp (disch := omega) only [qc] | simp (disch := omega) only [qo]) <;> (try simp only [go_sem, ↓reduceIte, Nat.reduceEqDiff, Nat.reduceAdd, Nat.reduceSub, Nat.reduceMul, Nat.reduceLT, Nat.reduceLeDiff, reduceCtorEq, Int.reduceToNat])))
          refine qcd (fl', fu, e, acc ++ [y]) [0, 1, 2, 3, 4, 5, 7] ⟨⟨g2, by simp only; omega, i3, by simp only; omega, by simp only [hlen]; omega, by simp only [hlen]; omega, fun h => by simp only [hlen] at h; omega⟩, by simp only; omega⟩ rfl (by simp) ?_ ?_ ?_
          all_goals simp only [qvj, hlen, if_neg hneA, ← qt]
          all_goals simp only [go_sem, ↓reduceIte, Nat.reduceEqDiff, Nat.reduceAdd, Nat.reduceSub, Nat.reduceMul, Nat.reduceLT, Nat.reduceLeDiff, reduceCtorEq, Int.reduceToNat]
          all_goals first | (rw [qt]; exact qbc _ _) | exact ⟨rfl, rfl⟩ | rfl | (rw [qt, qbc, qbw]; exact ⟨rfl, rfl⟩)
    · have h0l : ¬ acc.length = a0.length := fun h => h0 (i7 h)
      simp only [if_neg h0l]
      cases ans with
      | false =>
        rw [if_neg (by simp)] at i3
        subst i3
        obtain rfl := hk2 h0
        repeat' (first | refine qj ?_ | refine ql ?_ | ((first | refine qn ?_ | refine qk ?_ | refine qu ?_ | refine qh ?_ | refine qg ?_ | refine qdy hmore ?_ | ((first | refine qe ?_ ?_ | refine qd ?_ ?_) <;> intro hc <;> (try simp only [hc]) <;> (try simp only [qb, qa, decide_eq_true_eq, decide_eq_false_iff_not, Bool.and_eq_true] at hc)) | refine And.intro (by first | assumption | omega | (have := qf (by assumption); omega) | (unfold qp; omega)) ?_ | simp (disch := omega) only [qc] | simp (disch := omega) only [qo]) <;> (try simp only [go_sem, ↓reduceIte, Nat.reduceEqDiff, Nat.reduceAdd, Nat.reduceSub, Nat.reduceMul, Nat.reduceLT, Nat.reduceLeDiff, reduceCtorEq, Int.reduceToNat])))
        all_goals exact ⟨fun g => absurd g h0, fun _ => by first | trivial | exact ⟨rfl, rfl⟩⟩
      | true =>
        rw [if_pos rfl] at i3
        cases ok with
        | false =>
          rw [if_neg (by simp)] at i3
          subst i3
          obtain rfl := hk2 h0
          repeat' (first | refine qj ?_ | refine ql ?_ | ((first | refine qn ?_ | refine qk ?_ | refine qu ?_ | refine qh ?_ | refine qg ?_ | refine qdy hmore ?_ | refine qg3 hone ?_ | ((first | refine qe ?_ ?_ | refine qd ?_ ?_) <;> intro hc <;> (try simp only [hc]) <;> (try simp only [qb, qa, decide_eq_true_eq, decide_eq_false_iff_not, Bool.and_eq_true] at hc)) | refine And.intro (by first | assumption | omega | (have := qf (by assumption); omega) | (unfold qp; omega)) ?_ | simp (disch := omega) only [qc] | simp (disch := omega) only [qo]) <;> (try simp only [go_sem, ↓reduceIte, Nat.reduceEqDiff, Nat.reduceAdd, Nat.reduceSub, Nat.reduceMul, Nat.reduceLT, Nat.reduceLeDiff, reduceCtorEq, Int.reduceToNat])))
          all_goals exact ⟨fun g => absurd g h0, fun _ => by first | trivial | exact ⟨rfl, rfl⟩⟩
        | true =>
          have hlt := hlt rfl
          rw [if_pos rfl] at i3
          repeat' (first | refine qj ?_ | refine ql ?_ | ((first | refine qn ?_ | refine qk ?_ | refine qu ?_ | refine qh ?_ | refine qg ?_ | refine qdy hmore ?_ | refine qg3 hone ?_ | ((first | refine qe ?_ ?_ | refine qd ?_ ?_) <;> intro hc <;> (try simp only [hc]) <;> (try simp only [qb, qa, decide_eq_true_eq, decide_eq_false_iff_not, Bool.and_eq_true] at hc)) | refine And.intro (by first | assumption | omega | (have := qf (by assumption); omega) | (unfold qp; omega)) ?_ | simp (disch := omega) only [qc] | simp (disch := omega) only [qo]) <;> (try simp only [go_sem, ↓reduceIte, Nat.reduceEqDiff, Nat.reduceAdd, Nat.reduceSub, Nat.reduceMul, Nat.reduceLT, Nat.reduceLeDiff, reduceCtorEq, Int.reduceToNat])))
          refine qcd (fl', fu, e, acc ++ [y]) [0, 1, 2, 3, 4, 5, 8] ⟨⟨g2, by simp only; omega, i3, by simp only; omega, by simp only [hlen]; omega, by simp only [hlen]; omega, fun h => by simp only [hlen] at h; omega⟩, by simp only; omega⟩ rfl (by simp) ?_ ?_ ?_
          all_goals simp only [qvj, hlen, if_neg hneA, ← qt]
          all_goals simp only [go_sem, ↓reduceIte, Nat.reduceEqDiff, Nat.reduceAdd, Nat.reduceSub, Nat.reduceMul, Nat.reduceLT, Nat.reduceLeDiff, reduceCtorEq, Int.reduceToNat]
          all_goals first | (rw [qt]; exact qbc _ _) | exact ⟨rfl, rfl⟩ | rfl | (rw [qt, qbc, qbw]; exact ⟨rfl, rfl⟩)

def frP (x : List UInt8) (b : Bool) (c : K) : List Ent := [curE c, .blk [.ptr 0 0], .blk [.ptr 0 0], .blk [.str x], .blk [.bool b], .blk [.fn 25 [] [.ptr 4 0, .ptr 2 0, .ptr 3 0]]]
theorem qy8 {x : List UInt8} (b : Bool) (c : K) : (frP x b c).all (Ent.bd 6) = true := by
  simp only [frP, List.all_cons, List.all_nil, qbe, Bool.true_and, Bool.and_true]; rfl
theorem qn2 {g : FuncId} {x : List UInt8} {b : Bool} {c c' : K} {r : N × Bool} {L : List Ent} {Q : List Ent → VO → Prop} (h : VCalls Try.prog g [curE c, .blk [.ptr 0 0], .blk [.ptr 0 0], .blk [.str x], .blk [.bool b], .blk [.fn 25 [] [.ptr 4 0, .ptr 2 0, .ptr 3 0]]] [.ptr 1 0] fun H' o => H' = (frP x b c') ∧ o = .val (resB r)) (hq : Q (curE c' :: .blk [.ptr 0 0] :: .blk [.ptr 0 0] :: .blk [.str x] :: .blk [.bool b] :: .blk [.fn 25 [] [.ptr 4 0, .ptr 2 0, .ptr 3 0]] :: L) (.val (resB r))) :
    VApp Try.prog (curE c :: .blk [.ptr 0 0] :: .blk [.ptr 0 0] :: .blk [.str x] :: .blk [.bool b] :: .blk [.fn 25 [] [.ptr 4 0, .ptr 2 0, .ptr 3 0]] :: L) (.fn g [] [.ptr 1 0]) [] Q :=
  qcb (first := []) (caps := [.ptr 1 0]) (by
    simp only [List.nil_append]
    refine qc6 (H0 := [curE c, .blk [.ptr 0 0], .blk [.ptr 0 0], .blk [.str x], .blk [.bool b], .blk [.fn 25 [] [.ptr 4 0, .ptr 2 0, .ptr 3 0]]]) (L := L) h (qy8 (x := x) b c) rfl ?_
    rintro H1 o ⟨rfl, rfl⟩
    exact ⟨rfl, qy8 _ _, qml _ _, hq⟩)
theorem qhy {g : FuncId} {x : List UInt8} {b b' a : Bool} {c c' : K} {L : List Ent} {Q : List Ent → VO → Prop} (h : VCalls Try.prog g [curE c, .blk [.ptr 0 0], .blk [.ptr 0 0], .blk [.str x], .blk [.bool b], .blk [.fn 25 [] [.ptr 4 0, .ptr 2 0, .ptr 3 0]]] [.ptr 1 0, .ptr 5 0] fun H' o => H' = (frP x b' c') ∧ o = .val (.bool a)) (hq : Q (curE c' :: .blk [.ptr 0 0] :: .blk [.ptr 0 0] :: .blk [.str x] :: .blk [.bool b'] :: .blk [.fn 25 [] [.ptr 4 0, .ptr 2 0, .ptr 3 0]] :: L) (.val (.bool a))) :
    VApp Try.prog (curE c :: .blk [.ptr 0 0] :: .blk [.ptr 0 0] :: .blk [.str x] :: .blk [.bool b] :: .blk [.fn 25 [] [.ptr 4 0, .ptr 2 0, .ptr 3 0]] :: L) (.fn g [] [.ptr 1 0, .ptr 5 0]) [] Q :=
  qcb (first := []) (caps := [.ptr 1 0, .ptr 5 0]) (by
    simp only [List.nil_append]
    refine qc6 (H0 := [curE c, .blk [.ptr 0 0], .blk [.ptr 0 0], .blk [.str x], .blk [.bool b], .blk [.fn 25 [] [.ptr 4 0, .ptr 2 0, .ptr 3 0]]]) (L := L) h (qy8 (x := x) b c) rfl ?_
    rintro H1 o ⟨rfl, rfl⟩
    exact ⟨rfl, qy8 _ _, rfl, hq⟩)
/-- What a row's reading does, from nothing on. -/
def RowP (one : K → R3) (more : MF) (g1 g2 : FuncId) (x : List UInt8) (b : Bool) (c : K) : Prop :=
  VCalls Try.prog 15 [curE c, .blk [.ptr 0 0], .blk [.ptr 0 0], .blk [.str x], .blk [.bool b], .blk [.fn 25 [] [.ptr 4 0, .ptr 2 0, .ptr 3 0]]] [.nils, .fn g1 [] [.ptr 1 0], .fn g2 [] [.ptr 1 0, .ptr 5 0]] fun H' o =>
    H' = curE (rowS one more b c []).2.1 :: .blk [.ptr 0 0] :: .blk [.ptr 0 0] :: .blk [.str x] :: .blk [.bool (rowS one more b c []).1] :: .blk [.fn 25 [] [.ptr 4 0, .ptr 2 0, .ptr 3 0]] :: accE 5 (encs (rowS one more b c []).2.2.1) ∧ o = .val (.tup [accV 6 (encs (rowS one more b c []).2.2.1), .bool (rowS one more b c []).2.2.2])
def qu3 (g1 g2 : FuncId) (x : List UInt8) (s : Bool × Nat × K × List N) : AF × List Ent :=
  (⟨[(0, accV 6 (encs s.2.2.2)), (1, .fn g1 [] [.ptr 1 0]), (2, .fn g2 [] [.ptr 1 0, .ptr 5 0])], []⟩, curE s.2.2.1 :: .blk [.ptr 0 0] :: .blk [.ptr 0 0] :: .blk [.str x] :: .blk [.bool s.1] :: .blk [.fn 25 [] [.ptr 4 0, .ptr 2 0, .ptr 3 0]] :: accE 5 (encs s.2.2.2))
theorem q6w {one : K → R3} {more : MF} {g1 g2 : FuncId} {x : List UInt8} {n : Nat} (ho : Goes one) (hm : MonM more)
    (h1 : ∀ b c, c.good → rest c ≤ n → VCalls Try.prog g1 [curE c, .blk [.ptr 0 0], .blk [.ptr 0 0], .blk [.str x], .blk [.bool b], .blk [.fn 25 [] [.ptr 4 0, .ptr 2 0, .ptr 3 0]]] [.ptr 1 0] fun H' o => H' = (frP x b (one c).1) ∧ o = .val (resB (one c).2))
    (h2 : ∀ b c, c.good → rest c ≤ n → VCalls Try.prog g2 [curE c, .blk [.ptr 0 0], .blk [.ptr 0 0], .blk [.str x], .blk [.bool b], .blk [.fn 25 [] [.ptr 4 0, .ptr 2 0, .ptr 3 0]]] [.ptr 1 0, .ptr 5 0] fun H' o => H' = (frP x (more b c).1 (more b c).2.1) ∧ o = .val (.bool (more b c).2.2))
    (b0 : Bool) (c0 : K) (hg : c0.good) (hr : rest c0 ≤ n) : RowP one more g1 g2 x b0 c0 := by
  unfold RowP
  have hl : ([] : List N).length + rest c0 ≤ 1048578 := by have h9 := hg.rest; unfold rest; simp only [List.length_nil]; omega
  obtain ⟨kk, hk1, hk2, hk0⟩ : ∃ k : Nat, ((rowS one more b0 c0 []).2.2.1 = [] → k = 6) ∧ ((rowS one more b0 c0 []).2.2.1 ≠ [] → k = 7) ∧ 6 ≤ k := by
    by_cases h : (rowS one more b0 c0 []).2.2.1 = []
    · exact ⟨6, fun _ => rfl, fun g => absurd h g, Nat.le_refl _⟩
    · exact ⟨7, fun g => absurd g h, fun _ => rfl, Nat.le_succ _⟩
  refine qdm c0dn kk (by simpa using hk0) (by simp) ?_
  generalize htg : rowS one more b0 c0 [] = tg at hk1 hk2 ⊢
  unfold rowS at htg
  repeat' (first | refine qj ?_ | refine ql ?_ | ((first | refine qn ?_ | refine qk ?_ | refine qu ?_ | refine qh ?_ | refine qg ?_ | ((first | refine qe ?_ ?_ | refine qd ?_ ?_) <;> intro hc <;> (try simp only [hc]) <;> (try simp only [qb, qa, decide_eq_true_eq, decide_eq_false_iff_not, Bool.and_eq_true] at hc)) | refine And.intro (by first | assumption | omega | (have := qf (by assumption); omega) | (unfold qp; omega)) ?_ | simp (disch := omega) only [qc] | simp (disch := omega) only [qo]) <;> (try simp only [go_sem, ↓reduceIte, Nat.reduceEqDiff, Nat.reduceAdd, Nat.reduceSub, Nat.reduceMul, Nat.reduceLT, Nat.reduceLeDiff, reduceCtorEq, Int.reduceToNat])))
  refine qcy (S := Bool × Nat × K × List N) (fun s => s.2.2.1.good ∧ rest s.2.2.1 ≤ n ∧ rowF one more s.2.1 s.1 s.2.2.1 s.2.2.2 = tg ∧ rest s.2.2.1 < s.2.1 ∧ s.2.2.2.length + rest s.2.2.1 ≤ 1048578) (qu3 g1 g2 x) (fun s => rest s.2.2.1) ?_ ?_
  · refine qcd (b0, rest c0 + 1, c0, []) [0, 1, 2, 3, 4, 5] ⟨hg, hr, htg, Nat.lt_succ_self _, hl⟩ rfl (by simp) ?_ ?_ ?_
    all_goals simp only [qu3, encs, qbq, qbt]
    all_goals simp only [go_sem, ↓reduceIte, Nat.reduceEqDiff, Nat.reduceAdd, Nat.reduceSub, Nat.reduceMul, Nat.reduceLT, Nat.reduceLeDiff, reduceCtorEq, Int.reduceToNat]
  · rintro ⟨fl, fu, d, acc⟩ ⟨i1, i2, i3, i4, i5⟩
    simp only at i1 i2 i3 i4 i5
    obtain ⟨fu, rfl⟩ : ∃ k, fu = k + 1 := ⟨fu - 1, by omega⟩
    rw [rowF] at i3
    have hcap : qp (acc.length + 1) 64 := capN (by omega)
    have hmore := h2 fl d i1 i2
    have g1 := (hm fl d).1 i1
    have r1 := (hm fl d).2.1
    have hone := h1 (more fl d).1 (more fl d).2.1 g1 (by omega)
    have g2 := (ho.m (more fl d).2.1).1 g1
    have r2 := (ho.m (more fl d).2.1).2.1
    have hlt := ho.l (more fl d).2.1
    unfold qu3
    generalize more fl d = M at *
    obtain ⟨fl', d', ans⟩ := M
    simp only at hmore g1 r1 hone g2 r2 hlt i3
    generalize one d' = r at *
    obtain ⟨e, y, ok⟩ := r
    simp only at hone g2 r2 hlt i3
    cases ans with
    | false =>
      rw [if_neg (by simp)] at i3
      subst i3
      by_cases h0 : acc = []
      · subst h0
        obtain rfl := hk1 rfl
        simp only [encs, qbq, qbt]
        repeat' (first | refine qj ?_ | refine ql ?_ | ((first | refine qn ?_ | refine qk ?_ | refine qu ?_ | refine qh ?_ | refine qg ?_ | refine qhy hmore ?_ | ((first | refine qe ?_ ?_ | refine qd ?_ ?_) <;> intro hc <;> (try simp only [hc]) <;> (try simp only [qb, qa, decide_eq_true_eq, decide_eq_false_iff_not, Bool.and_eq_true] at hc)) | refine And.intro (by first | assumption | omega | (have := qf (by assumption); omega) | (unfold qp; omega)) ?_ | simp (disch := omega) only [qc] | simp (disch := omega) only [qo]) <;> (try simp only [go_sem, ↓reduceIte, Nat.reduceEqDiff, Nat.reduceAdd, Nat.reduceSub, Nat.reduceMul, Nat.reduceLT, Nat.reduceLeDiff, reduceCtorEq, Int.reduceToNat])))
        all_goals first | exact ⟨rfl, rfl⟩
      · have hne := qbl h0
        obtain rfl := hk2 h0
        simp only [qby hne, qbz hne, qbm]
        repeat' (first | refine qj ?_ | refine ql ?_ | ((first | refine qn ?_ | refine qk ?_ | refine qu ?_ | refine qh ?_ | refine qg ?_ | refine qhy hmore ?_ | ((first | refine qe ?_ ?_ | refine qd ?_ ?_) <;> intro hc <;> (try simp only [hc]) <;> (try simp only [qb, qa, decide_eq_true_eq, decide_eq_false_iff_not, Bool.and_eq_true] at hc)) | refine And.intro (by first | assumption | omega | (have := qf (by assumption); omega) | (unfold qp; omega)) ?_ | simp (disch := omega) only [qc] | simp (disch := omega) only [qo]) <;> (try simp only [go_sem, ↓reduceIte, Nat.reduceEqDiff, Nat.reduceAdd, Nat.reduceSub, Nat.reduceMul, Nat.reduceLT, Nat.reduceLeDiff, reduceCtorEq, Int.reduceToNat])))
        all_goals first | exact ⟨rfl, rfl⟩
    | true =>
      rw [if_pos rfl] at i3
      cases ok with
      | false =>
        rw [if_neg (by simp)] at i3
        subst i3
        by_cases h0 : acc = []
        · subst h0
          obtain rfl := hk1 rfl
          simp only [encs, qbq, qbt]
          repeat' (first | refine qj ?_ | refine ql ?_ | ((first | refine qn ?_ | refine qk ?_ | refine qu ?_ | refine qh ?_ | refine qg ?_ | refine qhy hmore ?_ | refine qn2 hone ?_ | ((first | refine qe ?_ ?_ | refine qd ?_ ?_) <;> intro hc <;> (try simp only [hc]) <;> (try simp only [qb, qa, decide_eq_true_eq, decide_eq_false_iff_not, Bool.and_eq_true] at hc)) | refine And.intro (by first | assumption | omega | (have := qf (by assumption); omega) | (unfold qp; omega)) ?_ | simp (disch := omega) only [qc] | simp (disch := omega) only [qo]) <;> (try simp only [go_sem, ↓reduceIte, Nat.reduceEqDiff, Nat.reduceAdd, Nat.reduceSub, Nat.reduceMul, Nat.reduceLT, Nat.reduceLeDiff, reduceCtorEq, Int.reduceToNat])))
          all_goals first | exact ⟨rfl, rfl⟩
        · have hne := qbl h0
          obtain rfl := hk2 h0
          simp only [qby hne, qbz hne, qbm]
          repeat' (first | refine qj ?_ | refine ql ?_ | ((first | refine qn ?_ | refine qk ?_ | refine qu ?_ | refine qh ?_ | refine qg ?_ | refine qhy hmore ?_ | refine qn2 hone ?_ | ((first | refine qe ?_ ?_ | refine qd ?_ ?_) <;> intro hc <;> (try simp only [hc]) <;> (try simp only [qb, qa, decide_eq_true_eq, decide_eq_false_iff_not, Bool.and_eq_true] at hc)) | refine And.intro (by first | assumption | omega | (have := qf (by assumption); omega) | (unfold qp; omega)) ?_ | simp (disch := omega) only [qc] | simp (disch := omega) only [qo]) <;> (try simp only [go_sem, ↓reduceIte, Nat.reduceEqDiff, Nat.reduceAdd, Nat.reduceSub, Nat.reduceMul, Nat.reduceLT, Nat.reduceLeDiff, reduceCtorEq, Int.reduceToNat])))
          all_goals first | exact ⟨rfl, rfl⟩
      | true =>
        have hlt := hlt rfl
        rw [if_pos rfl] at i3
        have hne3 : ¬ acc ++ [y] = [] := by simp
        have hlen : (acc ++ [y]).length = acc.length + 1 := by simp
        by_cases h0 : acc = []
        · subst h0
          simp only [encs, qbq, qbt]
          repeat' (first | refine qj ?_ | refine ql ?_ | ((first | refine qn ?_ | refine qk ?_ | refine qu ?_ | refine qh ?_ | refine qg ?_ | refine qhy hmore ?_ | refine qn2 hone ?_ | ((first | refine qe ?_ ?_ | refine qd ?_ ?_) <;> intro hc <;> (try simp only [hc]) <;> (try simp only [qb, qa, decide_eq_true_eq, decide_eq_false_iff_not, Bool.and_eq_true] at hc)) | refine And.intro (by first | assumption | omega | (have := qf (by assumption); omega) | (unfold qp; omega)) ?_ | simp (disch := omega) only [qc] | simp (disch := omega) only [qo]) <;> (try simp only [go_sem, ↓reduceIte, Nat.reduceEqDiff, Nat.reduceAdd, Nat.reduceSub, Nat.reduceMul, Nat.reduceLT, Nat.reduceLeDiff, reduceCtorEq, Int.reduceToNat])))
          refine qcd (fl', fu, e, [] ++ [y]) [0, 1, 2, 3, 4, 5, 7] ⟨⟨g2, by simp only; omega, i3, by simp only; omega, by simp only [hlen]; omega⟩, by simp only; omega⟩ rfl (by simp) ?_ ?_ ?_
          all_goals simp only [qu3, qbz (qbl hne3), qby (qbl hne3), qbm, hlen, ← qt]
          all_goals simp only [go_sem, ↓reduceIte, Nat.reduceEqDiff, Nat.reduceAdd, Nat.reduceSub, Nat.reduceMul, Nat.reduceLT, Nat.reduceLeDiff, reduceCtorEq, Int.reduceToNat]
          all_goals first | (rw [qt]; exact qbc _ _) | exact ⟨rfl, rfl⟩ | rfl | (rw [qt, qbc, qbw]; exact ⟨rfl, rfl⟩)
        · have hne := qbl h0
          simp only [qby hne, qbz hne, qbm]
          repeat' (first | refine qj ?_ | refine ql ?_ | ((first | refine qn ?_ | refine qk ?_ | refine qu ?_ | refine qh ?_ | refine qg ?_ | refine qhy hmore ?_ | refine qn2 hone ?_ | ((first | refine qe ?_ ?_ | refine qd ?_ ?_) <;> intro hc <;> (try simp only [hc]) <;> (try simp only [qb, qa, decide_eq_true_eq, decide_eq_false_iff_not, Bool.and_eq_true] at hc)) | refine And.intro (by first | assumption | omega | (have := qf (by assumption); omega) | (unfold qp; omega)) ?_ | simp (disch := omega) only [qc] | simp (disch := omega) only [qo]) <;> (try simp only [go_sem, ↓reduceIte, Nat.reduceEqDiff, Nat.reduceAdd, Nat.reduceSub, Nat.reduceMul, Nat.reduceLT, Nat.reduceLeDiff, reduceCtorEq, Int.reduceToNat])))
          refine qcd (fl', fu, e, acc ++ [y]) [0, 1, 2, 3, 4, 5, 8] ⟨⟨g2, by simp only; omega, i3, by simp only; omega, by simp only [hlen]; omega⟩, by simp only; omega⟩ rfl (by simp) ?_ ?_ ?_
          all_goals simp only [qu3, qbz (qbl hne3), qby (qbl hne3), qbm, hlen, ← qt]
          all_goals simp only [go_sem, ↓reduceIte, Nat.reduceEqDiff, Nat.reduceAdd, Nat.reduceSub, Nat.reduceMul, Nat.reduceLT, Nat.reduceLeDiff, reduceCtorEq, Int.reduceToNat]
          all_goals first | (rw [qt]; exact qbc _ _) | exact ⟨rfl, rfl⟩ | rfl | (rw [qt, qbc, qbw]; exact ⟨rfl, rfl⟩)

def frB (x : List UInt8) (kd : Int) (b : Bool) (c : K) : List Ent := [curE c, .blk [.ptr 0 0], .blk [.ptr 0 0], .blk [.str x], .blk [.bool b], .blk [.fn 25 [] [.ptr 4 0, .ptr 2 0, .ptr 3 0]], .blk [.int .i64 kd]]
theorem q0s {x : List UInt8} {kd : Int} (b : Bool) (c : K) : (frB x kd b c).all (Ent.bd 7) = true := by
  simp only [frB, List.all_cons, List.all_nil, qbe, Bool.true_and, Bool.and_true]; rfl
theorem qn5 {g : FuncId} {x : List UInt8} {kd : Int} {b : Bool} {c c' : K} {r : N × Bool} {L : List Ent} {Q : List Ent → VO → Prop} (h : VCalls Try.prog g [curE c, .blk [.ptr 0 0], .blk [.ptr 0 0], .blk [.str x], .blk [.bool b], .blk [.fn 25 [] [.ptr 4 0, .ptr 2 0, .ptr 3 0]], .blk [.int .i64 kd]] [.ptr 1 0, .ptr 6 0] fun H' o => H' = (frB x kd b c') ∧ o = .val (resB r)) (hq : Q (curE c' :: .blk [.ptr 0 0] :: .blk [.ptr 0 0] :: .blk [.str x] :: .blk [.bool b] :: .blk [.fn 25 [] [.ptr 4 0, .ptr 2 0, .ptr 3 0]] :: .blk [.int .i64 kd] :: L) (.val (resB r))) :
    VApp Try.prog (curE c :: .blk [.ptr 0 0] :: .blk [.ptr 0 0] :: .blk [.str x] :: .blk [.bool b] :: .blk [.fn 25 [] [.ptr 4 0, .ptr 2 0, .ptr 3 0]] :: .blk [.int .i64 kd] :: L) (.fn g [] [.ptr 1 0, .ptr 6 0]) [] Q :=
  qcb (first := []) (caps := [.ptr 1 0, .ptr 6 0]) (by
    simp only [List.nil_append]
    refine qc6 (H0 := [curE c, .blk [.ptr 0 0], .blk [.ptr 0 0], .blk [.str x], .blk [.bool b], .blk [.fn 25 [] [.ptr 4 0, .ptr 2 0, .ptr 3 0]], .blk [.int .i64 kd]]) (L := L) h (q0s (x := x) (kd := kd) b c) rfl ?_
    rintro H1 o ⟨rfl, rfl⟩
    exact ⟨rfl, q0s _ _, qml _ _, hq⟩)
theorem qhu {g : FuncId} {x : List UInt8} {kd : Int} {b b' a : Bool} {c c' : K} {L : List Ent} {Q : List Ent → VO → Prop} (h : VCalls Try.prog g [curE c, .blk [.ptr 0 0], .blk [.ptr 0 0], .blk [.str x], .blk [.bool b], .blk [.fn 25 [] [.ptr 4 0, .ptr 2 0, .ptr 3 0]], .blk [.int .i64 kd]] [.ptr 1 0, .ptr 5 0] fun H' o => H' = (frB x kd b' c') ∧ o = .val (.bool a)) (hq : Q (curE c' :: .blk [.ptr 0 0] :: .blk [.ptr 0 0] :: .blk [.str x] :: .blk [.bool b'] :: .blk [.fn 25 [] [.ptr 4 0, .ptr 2 0, .ptr 3 0]] :: .blk [.int .i64 kd] :: L) (.val (.bool a))) :
    VApp Try.prog (curE c :: .blk [.ptr 0 0] :: .blk [.ptr 0 0] :: .blk [.str x] :: .blk [.bool b] :: .blk [.fn 25 [] [.ptr 4 0, .ptr 2 0, .ptr 3 0]] :: .blk [.int .i64 kd] :: L) (.fn g [] [.ptr 1 0, .ptr 5 0]) [] Q :=
  qcb (first := []) (caps := [.ptr 1 0, .ptr 5 0]) (by
    simp only [List.nil_append]
    refine qc6 (H0 := [curE c, .blk [.ptr 0 0], .blk [.ptr 0 0], .blk [.str x], .blk [.bool b], .blk [.fn 25 [] [.ptr 4 0, .ptr 2 0, .ptr 3 0]], .blk [.int .i64 kd]]) (L := L) h (q0s (x := x) (kd := kd) b c) rfl ?_
    rintro H1 o ⟨rfl, rfl⟩
    exact ⟨rfl, q0s _ _, rfl, hq⟩)
/-- What a row's reading does, where something is there. -/
def RovB (one : K → R3) (more : MF) (g1 g2 : FuncId) (x : List UInt8) (kd : Int) (b : Bool) (c : K) (a0 : List N) : Prop :=
  VCalls Try.prog 15 (curE c :: .blk [.ptr 0 0] :: .blk [.ptr 0 0] :: .blk [.str x] :: .blk [.bool b] :: .blk [.fn 25 [] [.ptr 4 0, .ptr 2 0, .ptr 3 0]] :: .blk [.int .i64 kd] :: [.app 5 (encs a0)]) [.row 7 a0.length, .fn g1 [] [.ptr 1 0, .ptr 6 0], .fn g2 [] [.ptr 1 0, .ptr 5 0]] fun H' o =>
    ((rowS one more b c a0).2.2.1 = a0 → H' = curE (rowS one more b c a0).2.1 :: .blk [.ptr 0 0] :: .blk [.ptr 0 0] :: .blk [.str x] :: .blk [.bool (rowS one more b c a0).1] :: .blk [.fn 25 [] [.ptr 4 0, .ptr 2 0, .ptr 3 0]] :: .blk [.int .i64 kd] :: [.app 5 (encs a0)] ∧ o = .val (.tup [.row 7 a0.length, .bool (rowS one more b c a0).2.2.2])) ∧
    ((rowS one more b c a0).2.2.1 ≠ a0 → H' = curE (rowS one more b c a0).2.1 :: .blk [.ptr 0 0] :: .blk [.ptr 0 0] :: .blk [.str x] :: .blk [.bool (rowS one more b c a0).1] :: .blk [.fn 25 [] [.ptr 4 0, .ptr 2 0, .ptr 3 0]] :: .blk [.int .i64 kd] :: .dead :: [.app 5 (encs (rowS one more b c a0).2.2.1)] ∧ o = .val (.tup [.row 8 (rowS one more b c a0).2.2.1.length, .bool (rowS one more b c a0).2.2.2]))
def qu1 (g1 g2 : FuncId) (x : List UInt8) (kd : Int) (a0 : List N) (s : Bool × Nat × K × List N) : AF × List Ent :=
  if s.2.2.2.length = a0.length then (⟨[(0, .row 7 a0.length), (1, .fn g1 [] [.ptr 1 0, .ptr 6 0]), (2, .fn g2 [] [.ptr 1 0, .ptr 5 0])], []⟩, curE s.2.2.1 :: .blk [.ptr 0 0] :: .blk [.ptr 0 0] :: .blk [.str x] :: .blk [.bool s.1] :: .blk [.fn 25 [] [.ptr 4 0, .ptr 2 0, .ptr 3 0]] :: .blk [.int .i64 kd] :: [.app 5 (encs a0)])
  else (⟨[(0, .row 8 s.2.2.2.length), (1, .fn g1 [] [.ptr 1 0, .ptr 6 0]), (2, .fn g2 [] [.ptr 1 0, .ptr 5 0])], []⟩, curE s.2.2.1 :: .blk [.ptr 0 0] :: .blk [.ptr 0 0] :: .blk [.str x] :: .blk [.bool s.1] :: .blk [.fn 25 [] [.ptr 4 0, .ptr 2 0, .ptr 3 0]] :: .blk [.int .i64 kd] :: .dead :: [.app 5 (encs s.2.2.2)])
theorem q23 {one : K → R3} {more : MF} {g1 g2 : FuncId} {x : List UInt8} {kd : Int} {n : Nat} (ho : Goes one) (hm : MonM more)
    (h1 : ∀ b c, c.good → rest c ≤ n → VCalls Try.prog g1 [curE c, .blk [.ptr 0 0], .blk [.ptr 0 0], .blk [.str x], .blk [.bool b], .blk [.fn 25 [] [.ptr 4 0, .ptr 2 0, .ptr 3 0]], .blk [.int .i64 kd]] [.ptr 1 0, .ptr 6 0] fun H' o => H' = (frB x kd b (one c).1) ∧ o = .val (resB (one c).2))
    (h2 : ∀ b c, c.good → rest c ≤ n → VCalls Try.prog g2 [curE c, .blk [.ptr 0 0], .blk [.ptr 0 0], .blk [.str x], .blk [.bool b], .blk [.fn 25 [] [.ptr 4 0, .ptr 2 0, .ptr 3 0]], .blk [.int .i64 kd]] [.ptr 1 0, .ptr 5 0] fun H' o => H' = (frB x kd (more b c).1 (more b c).2.1) ∧ o = .val (.bool (more b c).2.2))
    (b0 : Bool) (c0 : K) (a0 : List N) (hg : c0.good) (hr : rest c0 ≤ n) (hl : a0.length + rest c0 ≤ 1048578) : RovB one more g1 g2 x kd b0 c0 a0 := by
  unfold RovB
  obtain ⟨kk, hk1, hk2, hk0⟩ : ∃ k : Nat, ((rowS one more b0 c0 a0).2.2.1 = a0 → k = 8) ∧ ((rowS one more b0 c0 a0).2.2.1 ≠ a0 → k = 9) ∧ 8 ≤ k := by
    by_cases h : (rowS one more b0 c0 a0).2.2.1 = a0
    · exact ⟨8, fun _ => rfl, fun g => absurd h g, Nat.le_refl _⟩
    · exact ⟨9, fun g => absurd g h, fun _ => rfl, Nat.le_succ _⟩
  refine qdm c0dn kk (by simpa using hk0) (by simp) ?_
  generalize htg : rowS one more b0 c0 a0 = tg at hk1 hk2 ⊢
  unfold rowS at htg
  repeat' (first | refine qj ?_ | refine ql ?_ | ((first | refine qn ?_ | refine qk ?_ | refine qu ?_ | refine qh ?_ | refine qg ?_ | ((first | refine qe ?_ ?_ | refine qd ?_ ?_) <;> intro hc <;> (try simp only [hc]) <;> (try simp only [qb, qa, decide_eq_true_eq, decide_eq_false_iff_not, Bool.and_eq_true] at hc)) | refine And.intro (by first | assumption | omega | (have := qf (by assumption); omega) | (unfold qp; omega)) ?_ | simp (disch := omega) only [qc] | simp (disch := omega) only [qo]) <;> (try simp only [go_sem, ↓reduceIte, Nat.reduceEqDiff, Nat.reduceAdd, Nat.reduceSub, Nat.reduceMul, Nat.reduceLT, Nat.reduceLeDiff, reduceCtorEq, Int.reduceToNat])))
  refine qcy (S := Bool × Nat × K × List N) (fun s => s.2.2.1.good ∧ rest s.2.2.1 ≤ n ∧ rowF one more s.2.1 s.1 s.2.2.1 s.2.2.2 = tg ∧ rest s.2.2.1 < s.2.1 ∧ s.2.2.2.length + rest s.2.2.1 ≤ 1048578 ∧ a0.length ≤ s.2.2.2.length ∧ (s.2.2.2.length = a0.length → s.2.2.2 = a0)) (qu1 g1 g2 x kd a0) (fun s => rest s.2.2.1) ?_ ?_
  · refine qcd (b0, rest c0 + 1, c0, a0) [0, 1, 2, 3, 4, 5, 6, 7] ⟨hg, hr, htg, Nat.lt_succ_self _, hl, Nat.le_refl _, fun _ => rfl⟩ rfl (by simp) ?_ ?_ ?_
    all_goals simp only [qu1, if_true]
    all_goals simp only [go_sem, ↓reduceIte, Nat.reduceEqDiff, Nat.reduceAdd, Nat.reduceSub, Nat.reduceMul, Nat.reduceLT, Nat.reduceLeDiff, reduceCtorEq, Int.reduceToNat]
    all_goals first | exact qbc _ _ | exact ⟨rfl, rfl⟩ | rfl | (rw [qbc, qbw]; exact ⟨rfl, rfl⟩)
  · rintro ⟨fl, fu, d, acc⟩ ⟨i1, i2, i3, i4, i5, i6, i7⟩
    simp only at i6 i7
    simp only at i1 i2 i3 i4 i5
    obtain ⟨fu, rfl⟩ : ∃ k, fu = k + 1 := ⟨fu - 1, by omega⟩
    rw [rowF] at i3
    have hcap : qp (acc.length + 1) 64 := capN (by omega)
    have hmore := h2 fl d i1 i2
    have g1 := (hm fl d).1 i1
    have r1 := (hm fl d).2.1
    have hone := h1 (more fl d).1 (more fl d).2.1 g1 (by omega)
    have g2 := (ho.m (more fl d).2.1).1 g1
    have r2 := (ho.m (more fl d).2.1).2.1
    have hlt := ho.l (more fl d).2.1
    unfold qu1
    generalize more fl d = M at *
    obtain ⟨fl', d', ans⟩ := M
    simp only at hmore g1 r1 hone g2 r2 hlt i3
    generalize one d' = r at *
    obtain ⟨e, y, ok⟩ := r
    simp only at hone g2 r2 hlt i3
    have hneA : ¬ acc.length + 1 = a0.length := by omega
    have hlen : (acc ++ [y]).length = acc.length + 1 := by simp
    by_cases h0 : acc = a0
    · have h0l : acc.length = a0.length := by rw [h0]
      simp only [if_pos h0l]
      cases ans with
      | false =>
        rw [if_neg (by simp)] at i3
        subst i3
        obtain rfl := hk1 h0
        repeat' (first | refine qj ?_ | refine ql ?_ | ((first | refine qn ?_ | refine qk ?_ | refine qu ?_ | refine qh ?_ | refine qg ?_ | refine qhu hmore ?_ | ((first | refine qe ?_ ?_ | refine qd ?_ ?_) <;> intro hc <;> (try simp only [hc]) <;> (try simp only [qb, qa, decide_eq_true_eq, decide_eq_false_iff_not, Bool.and_eq_true] at hc)) | refine And.intro (by first | assumption | omega | (have := qf (by assumption); omega) | (unfold qp; omega)) ?_ | simp (disch := omega) only [qc] | simp (disch := omega) only [qo]) <;> (try simp only [go_sem, ↓reduceIte, Nat.reduceEqDiff, Nat.reduceAdd, Nat.reduceSub, Nat.reduceMul, Nat.reduceLT, Nat.reduceLeDiff, reduceCtorEq, Int.reduceToNat])))
        all_goals exact ⟨fun _ => by first | trivial | exact ⟨rfl, rfl⟩, fun g => absurd h0 g⟩
      | true =>
        rw [if_pos rfl] at i3
        cases ok with
        | false =>
          rw [if_neg (by simp)] at i3
          subst i3
          obtain rfl := hk1 h0
          repeat' (first | refine qj ?_ | refine ql ?_ | ((first | refine qn ?_ | refine qk ?_ | refine qu ?_ | refine qh ?_ | refine qg ?_ | refine qhu hmore ?_ | refine qn5 hone ?_ | ((first | refine qe ?_ ?_ | refine qd ?_ ?_) <;> intro hc <;> (try simp only [hc]) <;> (try simp only [qb, qa, decide_eq_true_eq, decide_eq_false_iff_not, Bool.and_eq_true] at hc)) | refine And.intro (by first | assumption | omega | (have := qf (by assumption); omega) | (unfold qp; omega)) ?_ | simp (disch := omega) only [qc] | simp (disch := omega) only [qo]) <;> (try simp only [go_sem, ↓reduceIte, Nat.reduceEqDiff, Nat.reduceAdd, Nat.reduceSub, Nat.reduceMul, Nat.reduceLT, Nat.reduceLeDiff, reduceCtorEq, Int.reduceToNat])))
          all_goals exact ⟨fun _ => by first | trivial | exact ⟨rfl, rfl⟩, fun g => absurd h0 g⟩
        | true =>
          have hlt := hlt rfl
          rw [if_pos rfl] at i3
          subst h0
          repeat' (first | refine qj ?_ | refine ql ?_ | ((first | refine qn ?_ | refine qk ?_ | refine qu ?_ | refine qh ?_ | refine qg ?_ | refine qhu hmore ?_ | refine qn5 hone ?_ | ((first | refine qe ?_ ?_ | refine qd ?_ ?_) <;> intro hc <;> (try simp only [hc]) <;> (try simp only [qb, qa, decide_eq_true_eq, decide_eq_false_iff_not, Bool.and_eq_true] at hc)) | refine And.intro (by first | assumption | omega | (have := qf (by assumption); omega) | (unfold qp; omega)) ?_ | simp (disch := omega) only [qc] | simp (disch := omega) only [qo]) <;> (try simp only [go_sem, ↓reduceIte, Nat.reduceEqDiff, Nat.reduceAdd, Nat.reduceSub, Nat.reduceMul, Nat.reduceLT, Nat.reduceLeDiff, reduceCtorEq, Int.reduceToNat])))
          refine qcd (fl', fu, e, acc ++ [y]) [0, 1, 2, 3, 4, 5, 6, 7, 9] ⟨⟨g2, by simp only; omega, i3, by simp only; omega, by simp only [hlen]; omega, by simp only [hlen]; omega, fun h => by simp only [hlen] at h; omega⟩, by simp only; omega⟩ rfl (by simp) ?_ ?_ ?_
          all_goals simp only [qu1, hlen, if_neg hneA, ← qt]
          all_goals simp only [go_sem, ↓reduceIte, Nat.reduceEqDiff, Nat.reduceAdd, Nat.reduceSub, Nat.reduceMul, Nat.reduceLT, Nat.reduceLeDiff, reduceCtorEq, Int.reduceToNat]
          all_goals first | (rw [qt]; exact qbc _ _) | exact ⟨rfl, rfl⟩ | rfl | (rw [qt, qbc, qbw]; exact ⟨rfl, rfl⟩)
    · have h0l : ¬ acc.length = a0.length := fun h => h0 (i7 h)
      simp only [if_neg h0l]
      cases ans with
      | false =>
        rw [if_neg (by simp)] at i3
        subst i3
        obtain rfl := hk2 h0
        repeat' (first | refine qj ?_ | refine ql ?_ | ((first | refine qn ?_ | refine qk ?_ | refine qu ?_ | refine qh ?_ | refine qg ?_ | refine qhu hmore ?_ | ((first | refine qe ?_ ?_ | refine qd ?_ ?_) <;> intro hc <;> (try simp only [hc]) <;> (try simp only [qb, qa, decide_eq_true_eq, decide_eq_false_iff_not, Bool.and_eq_true] at hc)) | refine And.intro (by first | assumption | omega | (have := qf (by assumption); omega) | (unfold qp; omega)) ?_ | simp (disch := omega) only [qc] | simp (disch := omega) only [qo]) <;> (try simp only [go_sem, ↓reduceIte, Nat.reduceEqDiff, Nat.reduceAdd, Nat.reduceSub, Nat.reduceMul, Nat.reduceLT, Nat.reduceLeDiff, reduceCtorEq, Int.reduceToNat])))
        all_goals exact ⟨fun g => absurd g h0, fun _ => by first | trivial | exact ⟨rfl, rfl⟩⟩
      | true =>
        rw [if_pos rfl] at i3
        cases ok with
        | false =>
          rw [if_neg (by simp)] at i3
          subst i3
          obtain rfl := hk2 h0
          repeat' (first | refine qj ?_ | refine ql ?_ | ((first | refine qn ?_ | refine qk ?_ | refine qu ?_ | refine qh ?_ | refine qg ?_ | refine qhu hmore ?_ | refine qn5 hone ?_ | ((first | refine qe ?_ ?_ | refine qd ?_ ?_) <;> intro hc <;> (try simp only [hc]) <;> (try simp only [qb, qa, decide_eq_true_eq, decide_eq_false_iff_not, Bool.and_eq_true] at hc)) | refine And.intro (by first | assumption | omega | (have := qf (by assumption); omega) | (unfold qp; omega)) ?_ | simp (disch := omega) only [qc] | simp (disch := omega) only [qo]) <;> (try simp only [go_sem, ↓reduceIte, Nat.reduceEqDiff, Nat.reduceAdd, Nat.reduceSub, Nat.reduceMul, Nat.reduceLT, Nat.reduceLeDiff, reduceCtorEq, Int.reduceToNat])))
          all_goals exact ⟨fun g => absurd g h0, fun _ => by first | trivial | exact ⟨rfl, rfl⟩⟩
        | true =>
          have hlt := hlt rfl
          rw [if_pos rfl] at i3
          repeat' (first | refine qj ?_ | refine ql ?_ | ((first | refine qn ?_ | refine qk ?_ | refine qu ?_ | refine qh ?_ | refine qg ?_ | refine qhu hmore ?_ | refine qn5 hone ?_ | ((first | refine qe ?_ ?_ | refine qd ?_ ?_) <;> intro hc <;> (try simp only [hc]) <;> (try simp only [qb, qa, decide_eq_true_eq, decide_eq_false_iff_not, Bool.and_eq_true] at hc)) | refine And.intro (by first | assumption | omega | (have := qf (by assumption); omega) | (unfold qp; omega)) ?_ | simp (disch := omega) only [qc] | simp (disch := omega) only [qo]) <;> (try simp only [go_sem, ↓reduceIte, Nat.reduceEqDiff, Nat.reduceAdd, Nat.reduceSub, Nat.reduceMul, Nat.reduceLT, Nat.reduceLeDiff, reduceCtorEq, Int.reduceToNat])))
          refine qcd (fl', fu, e, acc ++ [y]) [0, 1, 2, 3, 4, 5, 6, 7, 10] ⟨⟨g2, by simp only; omega, i3, by simp only; omega, by simp only [hlen]; omega, by simp only [hlen]; omega, fun h => by simp only [hlen] at h; omega⟩, by simp only; omega⟩ rfl (by simp) ?_ ?_ ?_
          all_goals simp only [qu1, hlen, if_neg hneA, ← qt]
          all_goals simp only [go_sem, ↓reduceIte, Nat.reduceEqDiff, Nat.reduceAdd, Nat.reduceSub, Nat.reduceMul, Nat.reduceLT, Nat.reduceLeDiff, reduceCtorEq, Int.reduceToNat]
          all_goals first | (rw [qt]; exact qbc _ _) | exact ⟨rfl, rfl⟩ | rfl | (rw [qt, qbc, qbw]; exact ⟨rfl, rfl⟩)

set_option maxRecDepth 4000

theorem qnf (σ : Nat → Nat) (i o : Nat) : (Ent.blk [.ptr i o]).ren σ = .blk [.ptr (σ i) o] := rfl
theorem qpq (σ : Nat → Nat) (x : List UInt8) : (Ent.blk [.str x]).ren σ = .blk [.str x] := rfl
theorem qjj (σ : Nat → Nat) (b : Bool) : (Ent.blk [.bool b]).ren σ = .blk [.bool b] := rfl
theorem qbtw (σ : Nat → Nat) (n : Int) : (Ent.blk [.int .i64 n]).ren σ = .blk [.int .i64 n] := rfl
theorem qo6 (σ : Nat → Nat) (l : List N) : (Ent.app 5 (encs l)).ren σ = .app 5 (encs l) := by rw [Ent.ren, qbw]
theorem e_fn (σ : Nat → Nat) (f : FuncId) (i j k : Nat) : (Ent.blk [.fn f [] [.ptr i 0, .ptr j 0, .ptr k 0]]).ren σ = .blk [.fn f [] [.ptr (σ i) 0, .ptr (σ j) 0, .ptr (σ k) 0]] := rfl
/-- first's answer: a closure over three new variables. -/
theorem qbav (c : K) (x : List UInt8) : VCalls Try.prog 14 [curE c] [.ptr 0 0, .str x] fun H' o => H' = [curE c, .blk [.ptr 0 0], .blk [.str x], .blk [.bool false]] ∧ o = .val (.fn 25 [] [.ptr 3 0, .ptr 1 0, .ptr 2 0]) := by
  refine qdm c0df 4 (by simp) (by simp) ?_
  repeat' (first | refine qj ?_ | ((first | refine qn ?_ | refine qk ?_ | ((first | refine qe ?_ ?_ | refine qd ?_ ?_) <;> intro hc <;> (try simp only [hc]) <;> (try simp only [qb, qa, decide_eq_true_eq, decide_eq_false_iff_not, Bool.and_eq_true] at hc)) | refine And.intro (by first | assumption | omega | (have := qf (by assumption); omega) | (unfold qp; omega)) ?_ | simp (disch := omega) only [qc] | simp (disch := omega) only [qo]) <;> (try simp only [go_sem, ↓reduceIte, Nat.reduceEqDiff, Nat.reduceAdd, Nat.reduceSub, Nat.reduceMul, Nat.reduceLT, Nat.reduceLeDiff, reduceCtorEq, Int.reduceToNat])))
  all_goals exact ⟨rfl, rfl⟩
theorem qen {c : K} {x : List UInt8} {L : List Ent} {Q : List Ent → VO → Prop} (hq : Q (curE c :: (L ++ [.blk [.ptr 0 0], .blk [.str x], .blk [.bool false]])) (.val (.fn 25 [] [.ptr (L.length + 3) 0, .ptr (L.length + 1) 0, .ptr (L.length + 2) 0]))) :
    VApp Try.prog (curE c :: L) (.fn 14 [] []) [.ptr 0 0, .str x] Q :=
  qcb (first := []) (caps := []) (by
    simp only [List.nil_append, List.append_nil]
    refine qct (H0 := [curE c]) (args0 := [.ptr 0 0, .str x]) [0] (qbav c x) (by simp) ?_ rfl rfl ?_
    · simp only [go_sem, ↓reduceIte, Nat.reduceEqDiff, Nat.reduceAdd, Nat.reduceSub, Nat.reduceMul, Nat.reduceLT, Nat.reduceLeDiff, reduceCtorEq, Int.reduceToNat]
      omega
    rintro H1 o ⟨rfl, rfl⟩
    have h3 : ∀ k, L.length + 1 + k = L.length + (k + 1) := fun k => by omega
    simpa [qfv, qb0, sg', qnf, qpq, qjj, AV.ren, AV.rens, VO.ren, qc0, Nat.add_assoc] using hq)
/-- The closure of first. -/
theorem qvx (x : List UInt8) (b : Bool) (c : K) (hg : c.good) : VCalls Try.prog 25 [curE c, .blk [.ptr 0 0], .blk [.str x], .blk [.bool b]] [.ptr 3 0, .ptr 1 0, .ptr 2 0] fun H' o => H' = [curE (qbs x b c).2.1, .blk [.ptr 0 0], .blk [.str x], .blk [.bool (qbs x b c).1]] ∧ o = .val (.bool (qbs x b c).2.2) := by
  refine qx c0dg 4 (by simp) (by simp) ?_
  unfold qbs
  cases b with
  | false =>
    repeat' (first | refine qj ?_ | ((first | refine qn ?_ | refine qk ?_ | refine qh ?_ | refine qg ?_ | ((first | refine qe ?_ ?_ | refine qd ?_ ?_) <;> intro hc <;> (try simp only [hc]) <;> (try simp only [qb, qa, decide_eq_true_eq, decide_eq_false_iff_not, Bool.and_eq_true] at hc)) | refine And.intro (by first | assumption | omega | (have := qf (by assumption); omega) | (unfold qp; omega)) ?_ | simp (disch := omega) only [qc] | simp (disch := omega) only [qo]) <;> (try simp only [go_sem, ↓reduceIte, Nat.reduceEqDiff, Nat.reduceAdd, Nat.reduceSub, Nat.reduceMul, Nat.reduceLT, Nat.reduceLeDiff, reduceCtorEq, Int.reduceToNat])))
    all_goals exact ⟨rfl, rfl⟩
  | true =>
    repeat' (first | refine qj ?_ | ((first | refine qn ?_ | refine qk ?_ | refine qh ?_ | refine qg ?_ | refine qd5 hg.ok ?_ | ((first | refine qe ?_ ?_ | refine qd ?_ ?_) <;> intro hc <;> (try simp only [hc]) <;> (try simp only [qb, qa, decide_eq_true_eq, decide_eq_false_iff_not, Bool.and_eq_true] at hc)) | refine And.intro (by first | assumption | omega | (have := qf (by assumption); omega) | (unfold qp; omega)) ?_ | simp (disch := omega) only [qc] | simp (disch := omega) only [qo]) <;> (try simp only [go_sem, ↓reduceIte, Nat.reduceEqDiff, Nat.reduceAdd, Nat.reduceSub, Nat.reduceMul, Nat.reduceLT, Nat.reduceLeDiff, reduceCtorEq, Int.reduceToNat])))
    all_goals exact ⟨rfl, rfl⟩
theorem qhz {x : List UInt8} {b : Bool} {c : K} {B : Ent} {L : List Ent} {Q : List Ent → VO → Prop} (hg : c.good) (hq : Q (curE (qbs x b c).2.1 :: B :: .blk [.ptr 0 0] :: .blk [.str x] :: .blk [.bool (qbs x b c).1] :: L) (.val (.bool (qbs x b c).2.2))) :
    VApp Try.prog (curE c :: B :: .blk [.ptr 0 0] :: .blk [.str x] :: .blk [.bool b] :: L) (.fn 25 [] [.ptr 4 0, .ptr 2 0, .ptr 3 0]) [] Q :=
  qcb (first := []) (caps := [.ptr 4 0, .ptr 2 0, .ptr 3 0]) (by
    simp only [List.nil_append]
    refine qct (H0 := [curE c, .blk [.ptr 0 0], .blk [.str x], .blk [.bool b]]) (args0 := [.ptr 3 0, .ptr 1 0, .ptr 2 0]) [0, 2, 3, 4] (qvx x b c hg) (by simp) ?_ rfl rfl ?_
    · simp only [go_sem, ↓reduceIte, Nat.reduceEqDiff, Nat.reduceAdd, Nat.reduceSub, Nat.reduceMul, Nat.reduceLT, Nat.reduceLeDiff, reduceCtorEq, Int.reduceToNat]
      omega
    rintro H1 o ⟨rfl, rfl⟩
    simpa [qfv, qb0, sg', qnf, qpq, qjj, AV.ren, AV.rens, VO.ren, qc0] using hq)
theorem qpr (c : K) (hg : c.good) : qcc Try.prog 37 (curE c) (curE (qfz c).1) [.ptr 0 0] (resP (qfz c).2) := qhn (qcn _) (qvy (rest c + 2)) c hg (by omega)
theorem qux (c : K) (hg : c.good) : qcc Try.prog 29 (curE c) (curE (qe3 c).1) [.ptr 0 0] (resP (qe3 c).2) := qry (qbsg (rest c + 2)) c hg (by omega)
theorem qbes (c : K) : qcc Try.prog 59 (curE c) (curE c) [.ptr 0 0] (.bool (begT c)) := by
  refine qx c0dh 1 (by simp) (by simp) ?_
  repeat' (first | refine qj ?_ | ((first | refine qn ?_ | refine qk ?_ | refine qb4 ?_ | refine a_Is ?_ | ((first | refine qe ?_ ?_ | refine qd ?_ ?_) <;> intro hc <;> (try simp only [hc]) <;> (try simp only [qb, qa, decide_eq_true_eq, decide_eq_false_iff_not, Bool.and_eq_true] at hc)) | refine And.intro (by first | assumption | omega | (have := qf (by assumption); omega) | (unfold qp; omega)) ?_ | simp (disch := omega) only [qc] | simp (disch := omega) only [qo]) <;> (try simp only [go_sem, ↓reduceIte, Nat.reduceEqDiff, Nat.reduceAdd, Nat.reduceSub, Nat.reduceMul, Nat.reduceLT, Nat.reduceLeDiff, reduceCtorEq, Int.reduceToNat])))
  all_goals (unfold begT; simp_all)
theorem qbzk {c : K} {L : List Ent} {Q : List Ent → VO → Prop} (hq : Q (curE c :: L) (.val (.bool (begT c)))) : VApp Try.prog (curE c :: L) (.fn 59 [] []) [.ptr 0 0] Q := qb9 (qbes c) (qbe _ _) (qbe _ _) rfl rfl fun _ => hq
theorem qbhx (c : K) (hg : c.good) : VCalls Try.prog 57 [curE c, .blk [.ptr 0 0]] [.ptr 1 0] fun H' o => H' = frA false (qdq c).1 ∧ o = .val (resB (qdq c).2) := by
  refine qx c0di 2 (by simp) (by simp) ?_
  unfold qdq ofO frA
  repeat' (first | refine qj ?_ | ((first | refine qn ?_ | refine qk ?_ | refine qcp (qpr c hg) rfl ?_ | ((first | refine qe ?_ ?_ | refine qd ?_ ?_) <;> intro hc <;> (try simp only [hc]) <;> (try simp only [qb, qa, decide_eq_true_eq, decide_eq_false_iff_not, Bool.and_eq_true] at hc)) | refine And.intro (by first | assumption | omega | (have := qf (by assumption); omega) | (unfold qp; omega)) ?_ | simp (disch := omega) only [qc] | simp (disch := omega) only [qo]) <;> (try simp only [go_sem, ↓reduceIte, Nat.reduceEqDiff, Nat.reduceAdd, Nat.reduceSub, Nat.reduceMul, Nat.reduceLT, Nat.reduceLeDiff, reduceCtorEq, Int.reduceToNat])))
  all_goals exact ⟨rfl, rfl⟩
theorem qbmh (c : K) : VCalls Try.prog 58 [curE c, .blk [.ptr 0 0]] [.ptr 1 0] fun H' o => H' = frA false c ∧ o = .val (.bool (begT c)) := by
  refine qx c0dj 2 (by simp) (by simp) ?_
  unfold frA
  repeat' (first | refine qj ?_ | ((first | refine qn ?_ | refine qk ?_ | refine qbzk ?_ | ((first | refine qe ?_ ?_ | refine qd ?_ ?_) <;> intro hc <;> (try simp only [hc]) <;> (try simp only [qb, qa, decide_eq_true_eq, decide_eq_false_iff_not, Bool.and_eq_true] at hc)) | refine And.intro (by first | assumption | omega | (have := qf (by assumption); omega) | (unfold qp; omega)) ?_ | simp (disch := omega) only [qc] | simp (disch := omega) only [qo]) <;> (try simp only [go_sem, ↓reduceIte, Nat.reduceEqDiff, Nat.reduceAdd, Nat.reduceSub, Nat.reduceMul, Nat.reduceLT, Nat.reduceLeDiff, reduceCtorEq, Int.reduceToNat])))
  all_goals exact ⟨rfl, rfl⟩
theorem qbcu (c : K) (hg : c.good) : VCalls Try.prog 36 [curE c, .blk [.ptr 0 0]] [.ptr 1 0] fun H' o => H' = frA false (qdq c).1 ∧ o = .val (resB (qdq c).2) := by
  refine qx c0dk 2 (by simp) (by simp) ?_
  unfold qdq ofO frA
  repeat' (first | refine qj ?_ | ((first | refine qn ?_ | refine qk ?_ | refine qcp (qpr c hg) rfl ?_ | ((first | refine qe ?_ ?_ | refine qd ?_ ?_) <;> intro hc <;> (try simp only [hc]) <;> (try simp only [qb, qa, decide_eq_true_eq, decide_eq_false_iff_not, Bool.and_eq_true] at hc)) | refine And.intro (by first | assumption | omega | (have := qf (by assumption); omega) | (unfold qp; omega)) ?_ | simp (disch := omega) only [qc] | simp (disch := omega) only [qo]) <;> (try simp only [go_sem, ↓reduceIte, Nat.reduceEqDiff, Nat.reduceAdd, Nat.reduceSub, Nat.reduceMul, Nat.reduceLT, Nat.reduceLeDiff, reduceCtorEq, Int.reduceToNat])))
  all_goals exact ⟨rfl, rfl⟩
theorem qbaa (c : K) : VCalls Try.prog 38 [curE c, .blk [.ptr 0 0]] [.ptr 1 0] fun H' o => H' = frA false c ∧ o = .val (.bool (qfa c)) := by
  refine qx c0dl 2 (by simp) (by simp) ?_
  unfold qfa frA
  repeat' (first | refine qj ?_ | ((first | refine qn ?_ | refine qk ?_ | refine qb4 ?_ | ((first | refine qe ?_ ?_ | refine qd ?_ ?_) <;> intro hc <;> (try simp only [hc]) <;> (try simp only [qb, qa, decide_eq_true_eq, decide_eq_false_iff_not, Bool.and_eq_true] at hc)) | refine And.intro (by first | assumption | omega | (have := qf (by assumption); omega) | (unfold qp; omega)) ?_ | simp (disch := omega) only [qc] | simp (disch := omega) only [qo]) <;> (try simp only [go_sem, ↓reduceIte, Nat.reduceEqDiff, Nat.reduceAdd, Nat.reduceSub, Nat.reduceMul, Nat.reduceLT, Nat.reduceLeDiff, reduceCtorEq, Int.reduceToNat])))
  all_goals exact ⟨rfl, rfl⟩
theorem q8j (c : K) (hg : c.good) : RowA qdq (qf4 begT) 57 58 false c := quq goes_atom (monA _) (fun b c g _ => qbhx c g) (fun b c g _ => qbmh c) false c hg (Nat.le_refl _)
theorem q4w (c : K) (hg : c.good) : RowA qdq (qf4 qfa) 36 38 false c := quq goes_atom (monA _) (fun b c g _ => qbcu c g) (fun b c g _ => qbaa c) false c hg (Nat.le_refl _)
section
variable {one : K → R3} {more : MF} {g1 g2 : FuncId} {b : Bool} {c : K}
theorem qvk (h : RowA one more g1 g2 b c) (h0 : (rowS one more b c []).2.2.1 = []) {L : List Ent} {Q : List Ent → VO → Prop} (hq : Q (curE (rowS one more b c []).2.1 :: .blk [.ptr 0 0] :: L) (.val (.tup [.nils, .bool (rowS one more b c []).2.2.2]))) :
    VApp Try.prog (curE c :: .blk [.ptr 0 0] :: L) (.fn 15 [] []) [.nils, .fn g1 [] [.ptr 1 0], .fn g2 [] [.ptr 1 0]] Q :=
  qcb (first := []) (caps := []) (by
    simp only [List.nil_append, List.append_nil]
    refine qc6 (H0 := [curE c, .blk [.ptr 0 0]]) (L := L) h (qjz c) rfl ?_
    rintro H1 o ⟨rfl, rfl⟩
    rw [h0]
    exact ⟨rfl, qjz _, rfl, hq⟩)
theorem qu7 (h : RowA one more g1 g2 b c) (h0 : (rowS one more b c []).2.2.1 ≠ []) {L : List Ent} {Q : List Ent → VO → Prop} (hq : Q (curE (rowS one more b c []).2.1 :: .blk [.ptr 0 0] :: (L ++ [.app 5 (encs (rowS one more b c []).2.2.1)])) (.val (.tup [.row (L.length + 2) (rowS one more b c []).2.2.1.length, .bool (rowS one more b c []).2.2.2]))) :
    VApp Try.prog (curE c :: .blk [.ptr 0 0] :: L) (.fn 15 [] []) [.nils, .fn g1 [] [.ptr 1 0], .fn g2 [] [.ptr 1 0]] Q :=
  qcb (first := []) (caps := []) (by
    simp only [List.nil_append, List.append_nil]
    refine qct (H0 := [curE c, .blk [.ptr 0 0]]) (args0 := [.nils, .fn g1 [] [.ptr 1 0], .fn g2 [] [.ptr 1 0]]) [0, 1] h (by simp) ?_ rfl rfl ?_
    · simp only [go_sem, ↓reduceIte, Nat.reduceEqDiff, Nat.reduceAdd, Nat.reduceSub, Nat.reduceMul, Nat.reduceLT, Nat.reduceLeDiff, reduceCtorEq, Int.reduceToNat]
      omega
    rintro H1 o ⟨rfl, rfl⟩
    rw [qbz (qbl h0), qby (qbl h0), qbm]
    simpa [qfv, qb0, sg', qnf, qo6, AV.ren, AV.rens, VO.ren, qc0] using hq)
end
theorem qtp (t : T) (l : List N) : AV.agg [.int .i64 34, .int .i64 t.pos, .int .i64 0, .str t.text, .sl 5 (encs l)] = enc (conN t l) := by simp only [conN, enc]
theorem qs9 (t : T) : AV.agg [.int .i64 34, .int .i64 t.pos, .int .i64 0, .str t.text, .sl 5 []] = enc (conN t []) := qtp t []
theorem qbsf (c : K) (hg : c.good) : qcc Try.prog 41 (curE c) (curE (conK c).1) [.ptr 0 0] (resB (conK c).2) := by
  have g1 : (kindK c 2).1.good := (qb8 c 2).1 hg
  have hR := q8j (kindK c 2).1 g1
  have h0 := @qvk _ _ _ _ _ _ hR
  have h1 := @qu7 _ _ _ _ _ _ hR
  clear hR
  refine qx c0dm 1 (by simp) (by simp) ?_
  unfold conK
  generalize rowS qdq (qf4 begT) false (kindK c 2).1 [] = r at *
  by_cases hk : (kindK c 2).2 = true
  · rw [if_pos hk]
    by_cases hl : r.2.2.1 = []
    · repeat' (first | refine qj ?_ | ((first | refine qbx ?_ | refine qk ?_ | refine qh ?_ | refine qg ?_) <;> (try simp (disch := first | omega | (simp only [List.length_set, List.length_append, List.length_cons, List.length_nil]; done) | (simp only [List.length_set, List.length_append, List.length_cons, List.length_nil]; omega)) only [hk, go_sem, ↓reduceIte, Nat.reduceEqDiff, Nat.reduceAdd, Nat.reduceSub, Nat.reduceMul, Nat.reduceLT, Nat.reduceLeDiff, reduceCtorEq, Int.reduceToNat])) | ((first | ((first | refine qe ?_ ?_ | refine qd ?_ ?_) <;> intro hc <;> (try simp only [hc]) <;> (try simp only [qb, qa, decide_eq_true_eq, decide_eq_false_iff_not, Bool.and_eq_true] at hc)) | refine And.intro (by first | assumption | omega | (have := qf (by assumption); omega) | (unfold qp; omega)) ?_ | simp (disch := omega) only [qc] | simp (disch := omega) only [qo] | refine qc5 hg.ok ?_ | refine h0 hl ?_) <;> (try simp only [go_sem, ↓reduceIte, Nat.reduceEqDiff, Nat.reduceAdd, Nat.reduceSub, Nat.reduceMul, Nat.reduceLT, Nat.reduceLeDiff, reduceCtorEq, Int.reduceToNat])))
      all_goals first | (rw [hl, qs9]; done) | (rw [hl, qs9]; rfl) | (rw [hl, qs9]; exact ⟨rfl, rfl⟩)
    · repeat' (first | refine qj ?_ | ((first | refine qbx ?_ | refine qk ?_ | refine qh ?_ | refine qg ?_) <;> (try simp (disch := first | omega | (simp only [List.length_set, List.length_append, List.length_cons, List.length_nil]; done) | (simp only [List.length_set, List.length_append, List.length_cons, List.length_nil]; omega)) only [hk, go_sem, ↓reduceIte, Nat.reduceEqDiff, Nat.reduceAdd, Nat.reduceSub, Nat.reduceMul, Nat.reduceLT, Nat.reduceLeDiff, reduceCtorEq, Int.reduceToNat])) | ((first | ((first | refine qe ?_ ?_ | refine qd ?_ ?_) <;> intro hc <;> (try simp only [hc]) <;> (try simp only [qb, qa, decide_eq_true_eq, decide_eq_false_iff_not, Bool.and_eq_true] at hc)) | refine And.intro (by first | assumption | omega | (have := qf (by assumption); omega) | (unfold qp; omega)) ?_ | simp (disch := omega) only [qc] | simp (disch := omega) only [qo] | refine qc5 hg.ok ?_ | refine h1 hl ?_) <;> (try simp only [go_sem, ↓reduceIte, Nat.reduceEqDiff, Nat.reduceAdd, Nat.reduceSub, Nat.reduceMul, Nat.reduceLT, Nat.reduceLeDiff, reduceCtorEq, Int.reduceToNat])))
      all_goals first | (rw [qtp]; done) | (rw [qtp]; rfl) | (rw [qtp]; exact ⟨rfl, rfl⟩)
  · rw [if_neg hk]
    repeat' (first | refine qj ?_ | ((first | refine qn ?_ | refine qk ?_ | refine qh ?_ | refine qg ?_) <;> (try simp (disch := first | omega | (simp only [List.length_set, List.length_append, List.length_cons, List.length_nil]; done) | (simp only [List.length_set, List.length_append, List.length_cons, List.length_nil]; omega)) only [hk, go_sem, ↓reduceIte, Nat.reduceEqDiff, Nat.reduceAdd, Nat.reduceSub, Nat.reduceMul, Nat.reduceLT, Nat.reduceLeDiff, reduceCtorEq, Int.reduceToNat])) | ((first | ((first | refine qe ?_ ?_ | refine qd ?_ ?_) <;> intro hc <;> (try simp only [hc]) <;> (try simp only [qb, qa, decide_eq_true_eq, decide_eq_false_iff_not, Bool.and_eq_true] at hc)) | refine And.intro (by first | assumption | omega | (have := qf (by assumption); omega) | (unfold qp; omega)) ?_ | simp (disch := omega) only [qc] | simp (disch := omega) only [qo] | refine qc5 hg.ok ?_) <;> (try simp only [go_sem, ↓reduceIte, Nat.reduceEqDiff, Nat.reduceAdd, Nat.reduceSub, Nat.reduceMul, Nat.reduceLT, Nat.reduceLeDiff, reduceCtorEq, Int.reduceToNat])))
    all_goals first | (rw [qd2]; done) | (rw [qd2]; rfl) | (rw [qd2]; exact ⟨rfl, rfl⟩)
set_option maxRecDepth 4000

theorem qbz7 {c : K} {L : List Ent} {Q : List Ent → VO → Prop} (hg : c.good) (hq : Q (curE (conK c).1 :: L) (.val (resB (conK c).2))) : VApp Try.prog (curE c :: L) (.fn 41 [] []) [.ptr 0 0] Q := qj9 (qbsf c hg) rfl hq
theorem qzk (x : List UInt8) (b : Bool) (c : K) (hg : c.good) : VCalls Try.prog 40 [curE c, .blk [.ptr 0 0], .blk [.ptr 0 0], .blk [.str x], .blk [.bool b]] [.ptr 1 0] fun H' o => H' = frD x b (conK c).1 ∧ o = .val (resB (conK c).2) := by
  refine qx c0dd 5 (by simp) (by simp) ?_
  unfold frD
  repeat' (first | refine qj ?_ | ((first | refine qn ?_ | refine qk ?_ | refine qbz7 hg ?_ | ((first | refine qe ?_ ?_ | refine qd ?_ ?_) <;> intro hc <;> (try simp only [hc]) <;> (try simp only [qb, qa, decide_eq_true_eq, decide_eq_false_iff_not, Bool.and_eq_true] at hc)) | refine And.intro (by first | assumption | omega | (have := qf (by assumption); omega) | (unfold qp; omega)) ?_ | simp (disch := omega) only [qc] | simp (disch := omega) only [qo]) <;> (try simp only [go_sem, ↓reduceIte, Nat.reduceEqDiff, Nat.reduceAdd, Nat.reduceSub, Nat.reduceMul, Nat.reduceLT, Nat.reduceLeDiff, reduceCtorEq, Int.reduceToNat])))
  all_goals exact ⟨rfl, rfl⟩
theorem qrs (x : List UInt8) (b : Bool) (c : K) (hg : c.good) : VCalls Try.prog 25 [curE c, .blk [.ptr 0 0], .blk [.ptr 0 0], .blk [.str x], .blk [.bool b]] [.ptr 4 0, .ptr 2 0, .ptr 3 0] fun H' o => H' = frD x (qbs x b c).1 (qbs x b c).2.1 ∧ o = .val (.bool (qbs x b c).2.2) := by
  refine qct (H0 := [curE c, .blk [.ptr 0 0], .blk [.str x], .blk [.bool b]]) (args0 := [.ptr 3 0, .ptr 1 0, .ptr 2 0]) [0, 2, 3, 4] (qvx x b c hg) (by simp) ?_ rfl rfl ?_
  · simp only [go_sem, ↓reduceIte, Nat.reduceEqDiff, Nat.reduceAdd, Nat.reduceSub, Nat.reduceMul, Nat.reduceLT, Nat.reduceLeDiff, reduceCtorEq, Int.reduceToNat]
  rintro H1 o ⟨rfl, rfl⟩
  simp [frD, qfv, qb0, sg', qnf, qpq, qjj, AV.ren, AV.rens, VO.ren, qc0]
theorem q3o (c : K) (hg : c.good) : RowD conK (qbs [124]) 40 25 [124] false c :=
  q20 goes_con (monF _) (fun b c g _ => qzk _ b c g) (fun b c g _ => qrs _ b c g) false c hg (Nat.le_refl _)
theorem q3w (c : K) (a0 : List N) (hg : c.good) (hl : a0.length + rest c ≤ 1048578) : RovD conK (qbs [124]) 40 25 [124] false c a0 :=
  q45 goes_con (monF _) (fun b c g _ => qzk _ b c g) (fun b c g _ => qrs _ b c g) false c a0 hg (Nat.le_refl _) hl
section
variable {one : K → R3} {more : MF} {g : FuncId} {x : List UInt8} {b : Bool} {c : K} {e2 e3 e4 : Ent} {Q : List Ent → VO → Prop}
theorem q49 (h : RowD one more g 25 x b c) (h0 : (rowS one more b c []).2.2.1 = []) (hq : Q [curE (rowS one more b c []).2.1, .blk [.ptr 0 0], e2, e3, e4, .blk [.ptr 0 0], .blk [.str x], .blk [.bool (rowS one more b c []).1]] (.val (.tup [.nils, .bool (rowS one more b c []).2.2.2]))) :
    VApp Try.prog [curE c, .blk [.ptr 0 0], e2, e3, e4, .blk [.ptr 0 0], .blk [.str x], .blk [.bool b]] (.fn 15 [] []) [.nils, .fn g [] [.ptr 1 0], .fn 25 [] [.ptr 7 0, .ptr 5 0, .ptr 6 0]] Q :=
  qcb (first := []) (caps := []) (by
    simp only [List.nil_append, List.append_nil]
    refine qct (H0 := [curE c, .blk [.ptr 0 0], .blk [.ptr 0 0], .blk [.str x], .blk [.bool b]]) (args0 := [.nils, .fn g [] [.ptr 1 0], .fn 25 [] [.ptr 4 0, .ptr 2 0, .ptr 3 0]]) [0, 1, 5, 6, 7] h (by simp) ?_ rfl rfl ?_
    · simp only [go_sem, ↓reduceIte, Nat.reduceEqDiff, Nat.reduceAdd, Nat.reduceSub, Nat.reduceMul, Nat.reduceLT, Nat.reduceLeDiff, reduceCtorEq, Int.reduceToNat]
    rintro H1 o ⟨rfl, rfl⟩
    rw [h0]
    simpa [encs, qbt, qbq, qfv, qb0, sg', qnf, qpq, qjj, AV.ren, AV.rens, VO.ren, qc0] using hq)
theorem q4l (h : RowD one more g 25 x b c) (h0 : (rowS one more b c []).2.2.1 ≠ []) (hq : Q [curE (rowS one more b c []).2.1, .blk [.ptr 0 0], e2, e3, e4, .blk [.ptr 0 0], .blk [.str x], .blk [.bool (rowS one more b c []).1], .app 5 (encs (rowS one more b c []).2.2.1)] (.val (.tup [.row 8 (rowS one more b c []).2.2.1.length, .bool (rowS one more b c []).2.2.2]))) :
    VApp Try.prog [curE c, .blk [.ptr 0 0], e2, e3, e4, .blk [.ptr 0 0], .blk [.str x], .blk [.bool b]] (.fn 15 [] []) [.nils, .fn g [] [.ptr 1 0], .fn 25 [] [.ptr 7 0, .ptr 5 0, .ptr 6 0]] Q :=
  qcb (first := []) (caps := []) (by
    simp only [List.nil_append, List.append_nil]
    refine qct (H0 := [curE c, .blk [.ptr 0 0], .blk [.ptr 0 0], .blk [.str x], .blk [.bool b]]) (args0 := [.nils, .fn g [] [.ptr 1 0], .fn 25 [] [.ptr 4 0, .ptr 2 0, .ptr 3 0]]) [0, 1, 5, 6, 7] h (by simp) ?_ rfl rfl ?_
    · simp only [go_sem, ↓reduceIte, Nat.reduceEqDiff, Nat.reduceAdd, Nat.reduceSub, Nat.reduceMul, Nat.reduceLT, Nat.reduceLeDiff, reduceCtorEq, Int.reduceToNat]
    rintro H1 o ⟨rfl, rfl⟩
    rw [qbz (qbl h0), qby (qbl h0), qbm]
    simpa [qfv, qb0, sg', qnf, qpq, qjj, qo6, AV.ren, AV.rens, VO.ren, qc0] using hq)
variable {a0 : List N}
theorem q44 (h : RovD one more g 25 x b c a0) (h0 : (rowS one more b c a0).2.2.1 = a0) (hq : Q [curE (rowS one more b c a0).2.1, .blk [.ptr 0 0], e2, e3, e4, .app 5 (encs a0), .blk [.ptr 0 0], .blk [.str x], .blk [.bool (rowS one more b c a0).1]] (.val (.tup [.row 5 a0.length, .bool (rowS one more b c a0).2.2.2]))) :
    VApp Try.prog [curE c, .blk [.ptr 0 0], e2, e3, e4, .app 5 (encs a0), .blk [.ptr 0 0], .blk [.str x], .blk [.bool b]] (.fn 15 [] []) [.row 5 a0.length, .fn g [] [.ptr 1 0], .fn 25 [] [.ptr 8 0, .ptr 6 0, .ptr 7 0]] Q :=
  qcb (first := []) (caps := []) (by
    simp only [List.nil_append, List.append_nil]
    refine qct (H0 := [curE c, .blk [.ptr 0 0], .blk [.ptr 0 0], .blk [.str x], .blk [.bool b], .app 5 (encs a0)]) (args0 := [.row 5 a0.length, .fn g [] [.ptr 1 0], .fn 25 [] [.ptr 4 0, .ptr 2 0, .ptr 3 0]]) [0, 1, 6, 7, 8, 5] h (by simp) ?_ rfl rfl ?_
    · simp only [go_sem, ↓reduceIte, Nat.reduceEqDiff, Nat.reduceAdd, Nat.reduceSub, Nat.reduceMul, Nat.reduceLT, Nat.reduceLeDiff, reduceCtorEq, Int.reduceToNat]
      all_goals (rw [qbw, qbc]; exact ⟨rfl, rfl⟩)
    intro H1 o hh
    obtain ⟨rfl, rfl⟩ := hh.1 h0
    simpa [qfv, qb0, sg', qnf, qpq, qjj, qo6, AV.ren, AV.rens, VO.ren, qc0] using hq)
theorem q3m (h : RovD one more g 25 x b c a0) (h0 : (rowS one more b c a0).2.2.1 ≠ a0) (hq : Q [curE (rowS one more b c a0).2.1, .blk [.ptr 0 0], e2, e3, e4, .dead, .blk [.ptr 0 0], .blk [.str x], .blk [.bool (rowS one more b c a0).1], .app 5 (encs (rowS one more b c a0).2.2.1)] (.val (.tup [.row 9 (rowS one more b c a0).2.2.1.length, .bool (rowS one more b c a0).2.2.2]))) :
    VApp Try.prog [curE c, .blk [.ptr 0 0], e2, e3, e4, .app 5 (encs a0), .blk [.ptr 0 0], .blk [.str x], .blk [.bool b]] (.fn 15 [] []) [.row 5 a0.length, .fn g [] [.ptr 1 0], .fn 25 [] [.ptr 8 0, .ptr 6 0, .ptr 7 0]] Q :=
  qcb (first := []) (caps := []) (by
    simp only [List.nil_append, List.append_nil]
    refine qct (H0 := [curE c, .blk [.ptr 0 0], .blk [.ptr 0 0], .blk [.str x], .blk [.bool b], .app 5 (encs a0)]) (args0 := [.row 5 a0.length, .fn g [] [.ptr 1 0], .fn 25 [] [.ptr 4 0, .ptr 2 0, .ptr 3 0]]) [0, 1, 6, 7, 8, 5] h (by simp) ?_ rfl rfl ?_
    · simp only [go_sem, ↓reduceIte, Nat.reduceEqDiff, Nat.reduceAdd, Nat.reduceSub, Nat.reduceMul, Nat.reduceLT, Nat.reduceLeDiff, reduceCtorEq, Int.reduceToNat]
      all_goals (rw [qbw, qbc]; exact ⟨rfl, rfl⟩)
    intro H1 o hh
    obtain ⟨rfl, rfl⟩ := hh.2 h0
    have hd : ∀ σ : Nat → Nat, Ent.dead.ren σ = .dead := fun σ => rfl
    simpa [qfv, qb0, sg', qnf, qpq, qjj, qo6, hd, AV.ren, AV.rens, VO.ren, qc0] using hq)
end
theorem qnl (p : Int) (t : T) (v l : List N) : AV.agg [.int .i64 33, .int .i64 p, .int .i64 v.length, .str t.text, .sl 5 (encs l)] = enc (qvm p t v l) := by simp only [qvm, enc]
theorem q76 (p : Int) (t : T) (l : List N) : AV.agg [.int .i64 33, .int .i64 p, .int .i64 0, .str t.text, .sl 5 (encs l)] = enc (qvm p t [] l) := qnl p t [] l
theorem q2m (p : Int) (t : T) : AV.agg [.int .i64 33, .int .i64 p, .int .i64 0, .str t.text, .sl 5 []] = enc (qvm p t [] []) := qnl p t [] []
theorem qbd7 (p : Int) (c : K) (hg : c.good) : qcc Try.prog 27 (curE c) (curE (qkl p c).1) [.ptr 0 0, posZ p] (resB (qkl p c).2) := by
  have g1 : (kindK c 2).1.good := (qb8 c 2).1 hg
  have hR := q4w (kindK c 2).1 g1
  have h0 := @qvk _ _ _ _ _ _ hR
  have h1 := @qu7 _ _ _ _ _ _ hR
  have g2 := (qf9 goes_atom (monA qfa) false (kindK c 2).1 []).1 g1
  have hlen := qbbf goes_atom (monA qfa) false (kindK c 2).1 []
  have hle := (qf9 goes_atom (monA qfa) false (kindK c 2).1 []).2.1
  have h9 := g1.rest
  clear hR
  refine qx c0de 1 (by simp) (by simp [posZ]) ?_
  unfold qkl qwx posZ
  by_cases hk : (kindK c 2).2 = true
  · rw [if_pos hk]
    generalize rowS qdq (qf4 qfa) false (kindK c 2).1 [] = r at *
    obtain ⟨fl, d, v, ok⟩ := r
    simp only at h0 h1 g2 hlen hle ⊢
    simp only [List.length_nil] at hlen
    have hle2 := (qr d [61]).2.1
    have hcap : qp (v.length + 1) 64 := capN (by unfold rest at hlen; omega)
    have hvl : v.length ≤ maxLen := by unfold maxLen; unfold rest at hlen; omega
    have g3 : (qq d [61]).1.good := (qr _ _).1 g2
    have hR := q3o (qq d [61]).1 g3
    have hRv := q3w (qq d [61]).1 v g3 (by unfold rest at *; omega)
    unfold qvo
    by_cases hw : (qq d [61]).2 = true
    · rw [if_pos hw]
      by_cases hl : v = []
      · subst hl
        clear hRv
        have i0 := fun e2 e3 e4 Q => @q49 conK (qbs [124]) 40 [124] false (qq d [61]).1 e2 e3 e4 Q hR
        have i1 := fun e2 e3 e4 Q => @q4l conK (qbs [124]) 40 [124] false (qq d [61]).1 e2 e3 e4 Q hR
        clear hR
        generalize rowS conK (qbs [124]) false (qq d [61]).1 [] = r2 at *
        by_cases hq : r2.2.2.1 = []
        · repeat' (first | refine qj ?_ | ((first | refine qbx ?_ | refine qba ?_ | refine qk ?_ | refine qh ?_ | refine qg ?_) <;> (try simp (disch := first | omega | (simp only [List.length_set, List.length_append, List.length_cons, List.length_nil]; done) | (simp only [List.length_set, List.length_append, List.length_cons, List.length_nil]; omega)) only [hk, hw, go_sem, ↓reduceIte, Nat.reduceEqDiff, Nat.reduceAdd, Nat.reduceSub, Nat.reduceMul, Nat.reduceLT, Nat.reduceLeDiff, reduceCtorEq, Int.reduceToNat])) | ((first | ((first | refine qe ?_ ?_ | refine qd ?_ ?_) <;> intro hc <;> (try simp only [hc]) <;> (try simp only [qb, qa, decide_eq_true_eq, decide_eq_false_iff_not, Bool.and_eq_true] at hc)) | refine And.intro (by first | assumption | omega | (have := qf (by assumption); omega) | (unfold qp; omega)) ?_ | simp (disch := omega) only [qc] | simp (disch := omega) only [qo] | refine qc5 hg.ok ?_ | refine h0 rfl ?_ | refine qce g2.ok ?_ | refine qen ?_ | refine i0 _ _ _ _ hq ?_) <;> (try simp only [go_sem, ↓reduceIte, Nat.reduceEqDiff, Nat.reduceAdd, Nat.reduceSub, Nat.reduceMul, Nat.reduceLT, Nat.reduceLeDiff, reduceCtorEq, Int.reduceToNat])))
          all_goals (try rw [hq, q2m])
          all_goals (try exact ⟨rfl, rfl⟩)
        · repeat' (first | refine qj ?_ | ((first | refine qbx ?_ | refine qba ?_ | refine qk ?_ | refine qh ?_ | refine qg ?_) <;> (try simp (disch := first | omega | (simp only [List.length_set, List.length_append, List.length_cons, List.length_nil]; done) | (simp only [List.length_set, List.length_append, List.length_cons, List.length_nil]; omega)) only [hk, hw, go_sem, ↓reduceIte, Nat.reduceEqDiff, Nat.reduceAdd, Nat.reduceSub, Nat.reduceMul, Nat.reduceLT, Nat.reduceLeDiff, reduceCtorEq, Int.reduceToNat])) | ((first | ((first | refine qe ?_ ?_ | refine qd ?_ ?_) <;> intro hc <;> (try simp only [hc]) <;> (try simp only [qb, qa, decide_eq_true_eq, decide_eq_false_iff_not, Bool.and_eq_true] at hc)) | refine And.intro (by first | assumption | omega | (have := qf (by assumption); omega) | (unfold qp; omega)) ?_ | simp (disch := omega) only [qc] | simp (disch := omega) only [qo] | refine qc5 hg.ok ?_ | refine h0 rfl ?_ | refine qce g2.ok ?_ | refine qen ?_ | refine i1 _ _ _ _ hq ?_) <;> (try simp only [go_sem, ↓reduceIte, Nat.reduceEqDiff, Nat.reduceAdd, Nat.reduceSub, Nat.reduceMul, Nat.reduceLT, Nat.reduceLeDiff, reduceCtorEq, Int.reduceToNat])))
          all_goals (try rw [q76])
          all_goals (try exact ⟨rfl, rfl⟩)
      · clear hR
        have i0 := fun e2 e3 e4 Q => @q44 conK (qbs [124]) 40 [124] false (qq d [61]).1 e2 e3 e4 Q v hRv
        have i1 := fun e2 e3 e4 Q => @q3m conK (qbs [124]) 40 [124] false (qq d [61]).1 e2 e3 e4 Q v hRv
        clear hRv
        generalize rowS conK (qbs [124]) false (qq d [61]).1 v = r2 at *
        by_cases hq : r2.2.2.1 = v
        · repeat' (first | refine qj ?_ | ((first | refine qbx ?_ | refine qba ?_ | refine qk ?_ | refine qh ?_ | refine qg ?_) <;> (try simp (disch := first | omega | (simp only [List.length_set, List.length_append, List.length_cons, List.length_nil]; done) | (simp only [List.length_set, List.length_append, List.length_cons, List.length_nil]; omega)) only [hk, hw, go_sem, ↓reduceIte, Nat.reduceEqDiff, Nat.reduceAdd, Nat.reduceSub, Nat.reduceMul, Nat.reduceLT, Nat.reduceLeDiff, reduceCtorEq, Int.reduceToNat])) | ((first | ((first | refine qe ?_ ?_ | refine qd ?_ ?_) <;> intro hc <;> (try simp only [hc]) <;> (try simp only [qb, qa, decide_eq_true_eq, decide_eq_false_iff_not, Bool.and_eq_true] at hc)) | refine And.intro (by first | assumption | omega | (have := qf (by assumption); omega) | (unfold qp; omega)) ?_ | simp (disch := omega) only [qc] | simp (disch := omega) only [qo] | refine qc5 hg.ok ?_ | refine h1 hl ?_ | refine qce g2.ok ?_ | refine qen ?_ | refine i0 _ _ _ _ hq ?_) <;> (try simp only [go_sem, ↓reduceIte, Nat.reduceEqDiff, Nat.reduceAdd, Nat.reduceSub, Nat.reduceMul, Nat.reduceLT, Nat.reduceLeDiff, reduceCtorEq, Int.reduceToNat])))
          all_goals (try rw [hq, qnl])
          all_goals (try exact ⟨rfl, rfl⟩)
        · repeat' (first | refine qj ?_ | ((first | refine qbx ?_ | refine qba ?_ | refine qk ?_ | refine qh ?_ | refine qg ?_) <;> (try simp (disch := first | omega | (simp only [List.length_set, List.length_append, List.length_cons, List.length_nil]; done) | (simp only [List.length_set, List.length_append, List.length_cons, List.length_nil]; omega)) only [hk, hw, go_sem, ↓reduceIte, Nat.reduceEqDiff, Nat.reduceAdd, Nat.reduceSub, Nat.reduceMul, Nat.reduceLT, Nat.reduceLeDiff, reduceCtorEq, Int.reduceToNat])) | ((first | ((first | refine qe ?_ ?_ | refine qd ?_ ?_) <;> intro hc <;> (try simp only [hc]) <;> (try simp only [qb, qa, decide_eq_true_eq, decide_eq_false_iff_not, Bool.and_eq_true] at hc)) | refine And.intro (by first | assumption | omega | (have := qf (by assumption); omega) | (unfold qp; omega)) ?_ | simp (disch := omega) only [qc] | simp (disch := omega) only [qo] | refine qc5 hg.ok ?_ | refine h1 hl ?_ | refine qce g2.ok ?_ | refine qen ?_ | refine i1 _ _ _ _ hq ?_) <;> (try simp only [go_sem, ↓reduceIte, Nat.reduceEqDiff, Nat.reduceAdd, Nat.reduceSub, Nat.reduceMul, Nat.reduceLT, Nat.reduceLeDiff, reduceCtorEq, Int.reduceToNat])))
          all_goals (try rw [qnl])
          all_goals (try exact ⟨rfl, rfl⟩)
    · rw [if_neg hw]
      by_cases hl : v = []
      · repeat' (first | refine qj ?_ | ((first | refine qbx ?_ | refine qba ?_ | refine qk ?_ | refine qh ?_ | refine qg ?_) <;> (try simp (disch := first | omega | (simp only [List.length_set, List.length_append, List.length_cons, List.length_nil]; done) | (simp only [List.length_set, List.length_append, List.length_cons, List.length_nil]; omega)) only [hk, hw, go_sem, ↓reduceIte, Nat.reduceEqDiff, Nat.reduceAdd, Nat.reduceSub, Nat.reduceMul, Nat.reduceLT, Nat.reduceLeDiff, reduceCtorEq, Int.reduceToNat])) | ((first | ((first | refine qe ?_ ?_ | refine qd ?_ ?_) <;> intro hc <;> (try simp only [hc]) <;> (try simp only [qb, qa, decide_eq_true_eq, decide_eq_false_iff_not, Bool.and_eq_true] at hc)) | refine And.intro (by first | assumption | omega | (have := qf (by assumption); omega) | (unfold qp; omega)) ?_ | simp (disch := omega) only [qc] | simp (disch := omega) only [qo] | refine qc5 hg.ok ?_ | refine h0 hl ?_ | refine qce g2.ok ?_) <;> (try simp only [go_sem, ↓reduceIte, Nat.reduceEqDiff, Nat.reduceAdd, Nat.reduceSub, Nat.reduceMul, Nat.reduceLT, Nat.reduceLeDiff, reduceCtorEq, Int.reduceToNat])))
        all_goals (try rw [qij])
        all_goals (try exact ⟨rfl, rfl⟩)
      · repeat' (first | refine qj ?_ | ((first | refine qbx ?_ | refine qba ?_ | refine qk ?_ | refine qh ?_ | refine qg ?_) <;> (try simp (disch := first | omega | (simp only [List.length_set, List.length_append, List.length_cons, List.length_nil]; done) | (simp only [List.length_set, List.length_append, List.length_cons, List.length_nil]; omega)) only [hk, hw, go_sem, ↓reduceIte, Nat.reduceEqDiff, Nat.reduceAdd, Nat.reduceSub, Nat.reduceMul, Nat.reduceLT, Nat.reduceLeDiff, reduceCtorEq, Int.reduceToNat])) | ((first | ((first | refine qe ?_ ?_ | refine qd ?_ ?_) <;> intro hc <;> (try simp only [hc]) <;> (try simp only [qb, qa, decide_eq_true_eq, decide_eq_false_iff_not, Bool.and_eq_true] at hc)) | refine And.intro (by first | assumption | omega | (have := qf (by assumption); omega) | (unfold qp; omega)) ?_ | simp (disch := omega) only [qc] | simp (disch := omega) only [qo] | refine qc5 hg.ok ?_ | refine h1 hl ?_ | refine qce g2.ok ?_) <;> (try simp only [go_sem, ↓reduceIte, Nat.reduceEqDiff, Nat.reduceAdd, Nat.reduceSub, Nat.reduceMul, Nat.reduceLT, Nat.reduceLeDiff, reduceCtorEq, Int.reduceToNat])))
        all_goals (try rw [qij])
        all_goals (try exact ⟨rfl, rfl⟩)
  · rw [if_neg hk]
    repeat' (first | refine qj ?_ | ((first | refine qn ?_ | refine qcm (by rfl) ?_ | refine qba ?_ | refine qk ?_ | refine qh ?_ | refine qg ?_) <;> (try simp (disch := first | omega | (simp only [List.length_set, List.length_append, List.length_cons, List.length_nil]; done) | (simp only [List.length_set, List.length_append, List.length_cons, List.length_nil]; omega)) only [hk, go_sem, ↓reduceIte, Nat.reduceEqDiff, Nat.reduceAdd, Nat.reduceSub, Nat.reduceMul, Nat.reduceLT, Nat.reduceLeDiff, reduceCtorEq, Int.reduceToNat])) | ((first | ((first | refine qe ?_ ?_ | refine qd ?_ ?_) <;> intro hc <;> (try simp only [hc]) <;> (try simp only [qb, qa, decide_eq_true_eq, decide_eq_false_iff_not, Bool.and_eq_true] at hc)) | refine And.intro (by first | assumption | omega | (have := qf (by assumption); omega) | (unfold qp; omega)) ?_ | simp (disch := omega) only [qc] | simp (disch := omega) only [qo] | refine qc5 hg.ok ?_) <;> (try simp only [go_sem, ↓reduceIte, Nat.reduceEqDiff, Nat.reduceAdd, Nat.reduceSub, Nat.reduceMul, Nat.reduceLT, Nat.reduceLeDiff, reduceCtorEq, Int.reduceToNat])))
    all_goals (try rw [qij])
    all_goals (try exact ⟨rfl, rfl⟩)
set_option maxRecDepth 4000

theorem q6v (kd : Int) (c : K) (hg : c.good) : qcc Try.prog 64 (curE c) (curE (qbf kd c).1) [.ptr 0 0, .int .i64 kd] (resB (qbf kd c).2) := by
  have hb := qux c hg
  refine qx c0cz 1 (by simp) (by simp) ?_
  unfold qbf ofO
  generalize qe3 c = r at *
  obtain ⟨d, o⟩ := r
  cases o with
  | none =>
    repeat' (first | refine qj ?_ | ((first | refine qn ?_ | refine qcm (by rfl) ?_ | refine qba ?_ | refine qk ?_ | refine qh ?_ | refine qg ?_) <;> (try simp (disch := first | omega | (simp only [List.length_set, List.length_append, List.length_cons, List.length_nil]; done) | (simp only [List.length_set, List.length_append, List.length_cons, List.length_nil]; omega)) only [Option.isSome_none, Option.getD_none, go_sem, ↓reduceIte, Nat.reduceEqDiff, Nat.reduceAdd, Nat.reduceSub, Nat.reduceMul, Nat.reduceLT, Nat.reduceLeDiff, reduceCtorEq, Int.reduceToNat])) | ((first | ((first | refine qe ?_ ?_ | refine qd ?_ ?_) <;> intro hc <;> (try simp only [hc]) <;> (try simp only [qb, qa, decide_eq_true_eq, decide_eq_false_iff_not, Bool.and_eq_true] at hc)) | refine And.intro (by first | assumption | omega | (have := qf (by assumption); omega) | (unfold qp; omega)) ?_ | simp (disch := omega) only [qc] | simp (disch := omega) only [qo] | refine qcp hb rfl ?_) <;> (try simp only [go_sem, ↓reduceIte, Nat.reduceEqDiff, Nat.reduceAdd, Nat.reduceSub, Nat.reduceMul, Nat.reduceLT, Nat.reduceLeDiff, reduceCtorEq, Int.reduceToNat])))
    all_goals first | (rw [qd2]; done) | (rw [qd2]; rfl) | (rw [qd2]; exact ⟨rfl, rfl⟩) | rfl | (simp; done)
  | some n =>
    obtain ⟨k, p, m, t, l⟩ := n
    by_cases hk : k = kd
    · rw [if_neg (by simp [N.kind, hk])]
      repeat' (first | refine qj ?_ | ((first | refine qn ?_ | refine qcm (by rfl) ?_ | refine qba ?_ | refine qk ?_ | refine qh ?_ | refine qg ?_) <;> (try simp (disch := first | omega | (simp only [List.length_set, List.length_append, List.length_cons, List.length_nil]; done) | (simp only [List.length_set, List.length_append, List.length_cons, List.length_nil]; omega)) only [Option.isSome_some, Option.getD_some, go_sem, ↓reduceIte, Nat.reduceEqDiff, Nat.reduceAdd, Nat.reduceSub, Nat.reduceMul, Nat.reduceLT, Nat.reduceLeDiff, reduceCtorEq, Int.reduceToNat])) | ((first | ((first | refine qe ?_ ?_ | refine qd ?_ ?_) <;> intro hc <;> (try simp only [hc]) <;> (try simp only [qb, qa, decide_eq_true_eq, decide_eq_false_iff_not, Bool.and_eq_true] at hc)) | refine And.intro (by first | assumption | omega | (have := qf (by assumption); omega) | (unfold qp; omega)) ?_ | simp (disch := omega) only [qc] | simp (disch := omega) only [qo] | refine qcp hb rfl ?_ | refine qfp ?_) <;> (try simp only [go_sem, ↓reduceIte, Nat.reduceEqDiff, Nat.reduceAdd, Nat.reduceSub, Nat.reduceMul, Nat.reduceLT, Nat.reduceLeDiff, reduceCtorEq, Int.reduceToNat])))
      all_goals first | (exfalso; simp_all [N.kind]; done) | exact ⟨rfl, rfl⟩
    · rw [if_pos (by simp [N.kind, hk])]
      repeat' (first | refine qj ?_ | ((first | refine qn ?_ | refine qcm (by rfl) ?_ | refine qba ?_ | refine qk ?_ | refine qh ?_ | refine qg ?_) <;> (try simp (disch := first | omega | (simp only [List.length_set, List.length_append, List.length_cons, List.length_nil]; done) | (simp only [List.length_set, List.length_append, List.length_cons, List.length_nil]; omega)) only [Option.isSome_some, Option.getD_some, go_sem, ↓reduceIte, Nat.reduceEqDiff, Nat.reduceAdd, Nat.reduceSub, Nat.reduceMul, Nat.reduceLT, Nat.reduceLeDiff, reduceCtorEq, Int.reduceToNat])) | ((first | ((first | refine qe ?_ ?_ | refine qd ?_ ?_) <;> intro hc <;> (try simp only [hc]) <;> (try simp only [qb, qa, decide_eq_true_eq, decide_eq_false_iff_not, Bool.and_eq_true] at hc)) | refine And.intro (by first | assumption | omega | (have := qf (by assumption); omega) | (unfold qp; omega)) ?_ | simp (disch := omega) only [qc] | simp (disch := omega) only [qo] | refine qcp hb rfl ?_ | refine qfp ?_) <;> (try simp only [go_sem, ↓reduceIte, Nat.reduceEqDiff, Nat.reduceAdd, Nat.reduceSub, Nat.reduceMul, Nat.reduceLT, Nat.reduceLeDiff, reduceCtorEq, Int.reduceToNat])))
      all_goals first | (exfalso; simp_all [N.kind]; done) | exact ⟨rfl, rfl⟩
theorem q94 {kd : Int} {c : K} {L : List Ent} {Q : List Ent → VO → Prop} (hg : c.good) (hq : Q (curE (qbf kd c).1 :: L) (.val (resB (qbf kd c).2))) : VApp Try.prog (curE c :: L) (.fn 64 [] []) [.ptr 0 0, .int .i64 kd] Q := qj9 (q6v kd c hg) rfl hq
theorem q77 (x : List UInt8) (kd : Int) (b : Bool) (c : K) (hg : c.good) : VCalls Try.prog 63 [curE c, .blk [.ptr 0 0], .blk [.ptr 0 0], .blk [.str x], .blk [.bool b], .blk [.fn 25 [] [.ptr 4 0, .ptr 2 0, .ptr 3 0]], .blk [.int .i64 kd]] [.ptr 1 0, .ptr 6 0] fun H' o => H' = frB x kd b (qbf kd c).1 ∧ o = .val (resB (qbf kd c).2) := by
  refine qx c0da 7 (by simp) (by simp) ?_
  unfold frB
  repeat' (first | refine qj ?_ | ((first | refine qn ?_ | refine qk ?_ | refine q94 hg ?_ | ((first | refine qe ?_ ?_ | refine qd ?_ ?_) <;> intro hc <;> (try simp only [hc]) <;> (try simp only [qb, qa, decide_eq_true_eq, decide_eq_false_iff_not, Bool.and_eq_true] at hc)) | refine And.intro (by first | assumption | omega | (have := qf (by assumption); omega) | (unfold qp; omega)) ?_ | simp (disch := omega) only [qc] | simp (disch := omega) only [qo]) <;> (try simp only [go_sem, ↓reduceIte, Nat.reduceEqDiff, Nat.reduceAdd, Nat.reduceSub, Nat.reduceMul, Nat.reduceLT, Nat.reduceLeDiff, reduceCtorEq, Int.reduceToNat])))
  all_goals exact ⟨rfl, rfl⟩
theorem qbbh (kd : Int) (b : Bool) (c : K) (hg : c.good) : VCalls Try.prog 65 [curE c, .blk [.ptr 0 0], .blk [.ptr 0 0], .blk [.str [59]], .blk [.bool b], .blk [.fn 25 [] [.ptr 4 0, .ptr 2 0, .ptr 3 0]], .blk [.int .i64 kd]] [.ptr 1 0, .ptr 5 0] fun H' o => H' = frB [59] kd (qdf b c).1 (qdf b c).2.1 ∧ o = .val (.bool (qdf b c).2.2) := by
  refine qx c0db 7 (by simp) (by simp) ?_
  unfold frB qdf
  by_cases hi : isK c [125] = true
  · rw [if_pos hi]
    repeat' (first | refine qj ?_ | ((first | refine qn ?_ | refine qk ?_) <;> (try simp (disch := first | omega | (simp only [List.length_set, List.length_append, List.length_cons, List.length_nil]; done) | (simp only [List.length_set, List.length_append, List.length_cons, List.length_nil]; omega)) only [hi, go_sem, ↓reduceIte, Nat.reduceEqDiff, Nat.reduceAdd, Nat.reduceSub, Nat.reduceMul, Nat.reduceLT, Nat.reduceLeDiff, reduceCtorEq, Int.reduceToNat])) | ((first | ((first | refine qe ?_ ?_ | refine qd ?_ ?_) <;> intro hc <;> (try simp only [hc]) <;> (try simp only [qb, qa, decide_eq_true_eq, decide_eq_false_iff_not, Bool.and_eq_true] at hc)) | refine And.intro (by first | assumption | omega | (have := qf (by assumption); omega) | (unfold qp; omega)) ?_ | simp (disch := omega) only [qc] | simp (disch := omega) only [qo] | refine a_Is ?_ | refine qhz hg ?_) <;> (try simp only [go_sem, ↓reduceIte, Nat.reduceEqDiff, Nat.reduceAdd, Nat.reduceSub, Nat.reduceMul, Nat.reduceLT, Nat.reduceLeDiff, reduceCtorEq, Int.reduceToNat])))
    all_goals first | exact ⟨rfl, rfl⟩ | (exfalso; simp_all; done) | (simp_all; done)
  · rw [if_neg hi]
    have hi2 : isK c [125] = false := by simpa using hi
    by_cases ha : (qbs [59] b c).2.2 = true
    · repeat' (first | refine qj ?_ | ((first | refine qn ?_ | refine qk ?_) <;> (try simp (disch := first | omega | (simp only [List.length_set, List.length_append, List.length_cons, List.length_nil]; done) | (simp only [List.length_set, List.length_append, List.length_cons, List.length_nil]; omega)) only [hi2, ha, go_sem, ↓reduceIte, Nat.reduceEqDiff, Nat.reduceAdd, Nat.reduceSub, Nat.reduceMul, Nat.reduceLT, Nat.reduceLeDiff, reduceCtorEq, Int.reduceToNat])) | ((first | ((first | refine qe ?_ ?_ | refine qd ?_ ?_) <;> intro hc <;> (try simp only [hc]) <;> (try simp only [qb, qa, decide_eq_true_eq, decide_eq_false_iff_not, Bool.and_eq_true] at hc)) | refine And.intro (by first | assumption | omega | (have := qf (by assumption); omega) | (unfold qp; omega)) ?_ | simp (disch := omega) only [qc] | simp (disch := omega) only [qo] | refine a_Is ?_ | refine qhz hg ?_) <;> (try simp only [go_sem, ↓reduceIte, Nat.reduceEqDiff, Nat.reduceAdd, Nat.reduceSub, Nat.reduceMul, Nat.reduceLT, Nat.reduceLeDiff, reduceCtorEq, Int.reduceToNat])))
      all_goals first | exact ⟨rfl, rfl⟩ | (exfalso; simp_all; done) | (simp_all; done)
    · have ha2 : (qbs [59] b c).2.2 = false := by simpa using ha
      repeat' (first | refine qj ?_ | ((first | refine qn ?_ | refine qk ?_) <;> (try simp (disch := first | omega | (simp only [List.length_set, List.length_append, List.length_cons, List.length_nil]; done) | (simp only [List.length_set, List.length_append, List.length_cons, List.length_nil]; omega)) only [hi2, ha2, go_sem, ↓reduceIte, Nat.reduceEqDiff, Nat.reduceAdd, Nat.reduceSub, Nat.reduceMul, Nat.reduceLT, Nat.reduceLeDiff, reduceCtorEq, Int.reduceToNat])) | ((first | ((first | refine qe ?_ ?_ | refine qd ?_ ?_) <;> intro hc <;> (try simp only [hc]) <;> (try simp only [qb, qa, decide_eq_true_eq, decide_eq_false_iff_not, Bool.and_eq_true] at hc)) | refine And.intro (by first | assumption | omega | (have := qf (by assumption); omega) | (unfold qp; omega)) ?_ | simp (disch := omega) only [qc] | simp (disch := omega) only [qo] | refine a_Is ?_ | refine qhz hg ?_) <;> (try simp only [go_sem, ↓reduceIte, Nat.reduceEqDiff, Nat.reduceAdd, Nat.reduceSub, Nat.reduceMul, Nat.reduceLT, Nat.reduceLeDiff, reduceCtorEq, Int.reduceToNat])))
      all_goals first | exact ⟨rfl, rfl⟩ | (exfalso; simp_all; done) | (simp_all; done)
theorem q4o (kd : Int) (c : K) (a0 : List N) (hg : c.good) (hl : a0.length + rest c ≤ 1048578) : RovB (qbf kd) qdf 63 65 [59] kd false c a0 :=
  q23 (qeg kd) monB (fun b c g _ => q77 _ kd b c g) (fun b c g _ => qbbh kd b c g) false c a0 hg (Nat.le_refl _) hl
section
variable {one : K → R3} {more : MF} {g1 g2 : FuncId} {x : List UInt8} {kd : Int} {b : Bool} {c : K} {a0 : List N} {Q : List Ent → VO → Prop}
theorem q39 (h : RovB one more g1 g2 x kd b c a0) (h0 : (rowS one more b c a0).2.2.1 = a0) (hq : Q [curE (rowS one more b c a0).2.1, .app 5 (encs a0), .blk [.ptr 0 0], .blk [.int .i64 kd], .blk [.ptr 0 0], .blk [.str x], .blk [.bool (rowS one more b c a0).1], .blk [.fn 25 [] [.ptr 6 0, .ptr 4 0, .ptr 5 0]]] (.val (.tup [.row 1 a0.length, .bool (rowS one more b c a0).2.2.2]))) :
    VApp Try.prog [curE c, .app 5 (encs a0), .blk [.ptr 0 0], .blk [.int .i64 kd], .blk [.ptr 0 0], .blk [.str x], .blk [.bool b], .blk [.fn 25 [] [.ptr 6 0, .ptr 4 0, .ptr 5 0]]] (.fn 15 [] []) [.row 1 a0.length, .fn g1 [] [.ptr 2 0, .ptr 3 0], .fn g2 [] [.ptr 2 0, .ptr 7 0]] Q :=
  qcb (first := []) (caps := []) (by
    simp only [List.nil_append, List.append_nil]
    refine qct (H0 := [curE c, .blk [.ptr 0 0], .blk [.ptr 0 0], .blk [.str x], .blk [.bool b], .blk [.fn 25 [] [.ptr 4 0, .ptr 2 0, .ptr 3 0]], .blk [.int .i64 kd], .app 5 (encs a0)]) (args0 := [.row 7 a0.length, .fn g1 [] [.ptr 1 0, .ptr 6 0], .fn g2 [] [.ptr 1 0, .ptr 5 0]]) [0, 2, 4, 5, 6, 7, 3, 1] h (by simp) ?_ rfl rfl ?_
    · simp only [go_sem, ↓reduceIte, Nat.reduceEqDiff, Nat.reduceAdd, Nat.reduceSub, Nat.reduceMul, Nat.reduceLT, Nat.reduceLeDiff, reduceCtorEq, Int.reduceToNat]
      all_goals (rw [qbw, qbc]; exact ⟨rfl, rfl⟩)
    intro H1 o hh
    obtain ⟨rfl, rfl⟩ := hh.1 h0
    simpa [qfv, qb0, sg', qnf, qpq, qjj, qbtw, qo6, e_fn, AV.ren, AV.rens, VO.ren, qc0] using hq)
theorem q5i (h : RovB one more g1 g2 x kd b c a0) (h0 : (rowS one more b c a0).2.2.1 ≠ a0) (hq : Q [curE (rowS one more b c a0).2.1, .dead, .blk [.ptr 0 0], .blk [.int .i64 kd], .blk [.ptr 0 0], .blk [.str x], .blk [.bool (rowS one more b c a0).1], .blk [.fn 25 [] [.ptr 6 0, .ptr 4 0, .ptr 5 0]], .app 5 (encs (rowS one more b c a0).2.2.1)] (.val (.tup [.row 8 (rowS one more b c a0).2.2.1.length, .bool (rowS one more b c a0).2.2.2]))) :
    VApp Try.prog [curE c, .app 5 (encs a0), .blk [.ptr 0 0], .blk [.int .i64 kd], .blk [.ptr 0 0], .blk [.str x], .blk [.bool b], .blk [.fn 25 [] [.ptr 6 0, .ptr 4 0, .ptr 5 0]]] (.fn 15 [] []) [.row 1 a0.length, .fn g1 [] [.ptr 2 0, .ptr 3 0], .fn g2 [] [.ptr 2 0, .ptr 7 0]] Q :=
  qcb (first := []) (caps := []) (by
    simp only [List.nil_append, List.append_nil]
    refine qct (H0 := [curE c, .blk [.ptr 0 0], .blk [.ptr 0 0], .blk [.str x], .blk [.bool b], .blk [.fn 25 [] [.ptr 4 0, .ptr 2 0, .ptr 3 0]], .blk [.int .i64 kd], .app 5 (encs a0)]) (args0 := [.row 7 a0.length, .fn g1 [] [.ptr 1 0, .ptr 6 0], .fn g2 [] [.ptr 1 0, .ptr 5 0]]) [0, 2, 4, 5, 6, 7, 3, 1] h (by simp) ?_ rfl rfl ?_
    · simp only [go_sem, ↓reduceIte, Nat.reduceEqDiff, Nat.reduceAdd, Nat.reduceSub, Nat.reduceMul, Nat.reduceLT, Nat.reduceLeDiff, reduceCtorEq, Int.reduceToNat]
      all_goals (rw [qbw, qbc]; exact ⟨rfl, rfl⟩)
    intro H1 o hh
    obtain ⟨rfl, rfl⟩ := hh.2 h0
    have hd : ∀ σ : Nat → Nat, Ent.dead.ren σ = .dead := fun σ => rfl
    simpa [qfv, qb0, sg', qnf, qpq, qjj, qbtw, qo6, e_fn, hd, AV.ren, AV.rens, VO.ren, qc0] using hq)
end
/-- What is read is what was there, or more. -/
theorem qyw {kd : Int} : ∀ (f : Nat) (b : Bool) (c : K) (acc : List N), rest c < f → (rowF (qbf kd) qdf f b c acc).2.2.1 ≠ acc → (rowF (qbf kd) qdf f b c acc).2.2.1 ≠ []
  | 0, _, _, _, h, _ => absurd h (by omega)
  | f + 1, b, c, acc, hf, h => by
    rw [rowF] at h ⊢
    have h3 := (monB b c).2.1
    split at h
    · rename_i h1
      rw [if_pos h1]
      split at h
      · rename_i h2
        rw [if_pos h2]
        have h4 := (qeg kd).l _ h2
        by_cases hq : (rowF (qbf kd) qdf f (qdf b c).1 (qbf kd (qdf b c).2.1).1 (acc ++ [(qbf kd (qdf b c).2.1).2.1])).2.2.1 = acc ++ [(qbf kd (qdf b c).2.1).2.1]
        · rw [hq]; simp
        · exact qyw f _ _ _ (by omega) hq
      · exact absurd rfl h
    · exact absurd rfl h
/-- What a body's reading does: members behind what is there. -/
def qjx (kd : Int) (c : K) (out : List N) : Prop :=
  VCalls Try.prog 44 [curE c, .app 5 (encs out)] [.ptr 0 0, .row 1 out.length, .int .i64 kd] fun H' o =>
    ((qc9 kd c out).2.1 = out → H' = [curE (qc9 kd c out).1, .app 5 (encs out)] ∧ o = .val (.tup [.row 1 out.length, .bool (qc9 kd c out).2.2])) ∧
    ((qc9 kd c out).2.1 ≠ out → H' = [curE (qc9 kd c out).1, .dead, .app 5 (encs (qc9 kd c out).2.1)] ∧ o = .val (.tup [.row 2 (qc9 kd c out).2.1.length, .bool (qc9 kd c out).2.2]))
theorem q4b (kd : Int) (c : K) (out : List N) (hg : c.good) (hl : out.length + rest c ≤ 1048578) : qjx kd c out := by
  unfold qjx
  obtain ⟨kk, hk1, hk2, hk0⟩ : ∃ k : Nat, ((qc9 kd c out).2.1 = out → k = 2) ∧ ((qc9 kd c out).2.1 ≠ out → k = 3) ∧ 2 ≤ k := by
    by_cases h : (qc9 kd c out).2.1 = out
    · exact ⟨2, fun _ => rfl, fun g => absurd h g, Nat.le_refl _⟩
    · exact ⟨3, fun g => absurd g h, fun _ => rfl, Nat.le_succ _⟩
  refine qdm c0dc kk (by simpa using hk0) (by simp) ?_
  have g1 : (qq c [119, 104, 101, 114, 101]).1.good := (qr c _).1 hg
  have g2 : (qq (qq c [119, 104, 101, 114, 101]).1 [123]).1.good := (qr _ _).1 g1
  have r1 := (qr c [119, 104, 101, 114, 101]).2.1
  have r2 := (qr (qq c [119, 104, 101, 114, 101]).1 [123]).2.1
  unfold qc9 at *
  by_cases h1 : (qq c [119, 104, 101, 114, 101]).2 = true
  · simp only [if_pos h1] at hk1 hk2 ⊢
    by_cases h2 : (qq (qq c [119, 104, 101, 114, 101]).1 [123]).2 = true
    · simp only [if_pos h2] at hk1 hk2 ⊢
      have hR := q4o kd (qq (qq c [119, 104, 101, 114, 101]).1 [123]).1 out g2 (by omega)
      have i0 := fun Q => @q39 _ _ _ _ _ _ _ _ _ Q hR
      have i1 := fun Q => @q5i _ _ _ _ _ _ _ _ _ Q hR
      have hln0 : (rowS (qbf kd) qdf false (qq (qq c [119, 104, 101, 114, 101]).1 [123]).1 out).2.2.1 ≠ out → (rowS (qbf kd) qdf false (qq (qq c [119, 104, 101, 114, 101]).1 [123]).1 out).2.2.1 ≠ [] := qyw _ _ _ _ (Nat.lt_succ_self _)
      have g3 := (qf9 (qeg kd) monB false (qq (qq c [119, 104, 101, 114, 101]).1 [123]).1 out).1 g2
      clear hR
      generalize rowS (qbf kd) qdf false (qq (qq c [119, 104, 101, 114, 101]).1 [123]).1 out = r at *
      obtain ⟨fl, d, l, ok⟩ := r
      simp only at i0 i1 g3 hk1 hk2 hln0 ⊢
      have hln : l ≠ out → l ≠ [] := hln0
      have hl2 : (ql5 (d, l, ok)).2.1 = l := by unfold ql5; split <;> rfl
      rw [hl2] at hk1 hk2
      simp only [hl2]
      by_cases hq : l = out
      · obtain rfl := hk1 hq
        cases ok with
        | false =>
          unfold ql5
          repeat' (first | refine qj ?_ | ((first | refine qbx ?_ | refine qk ?_ | refine qh ?_ | refine qg ?_) <;> (try simp (disch := first | omega | (simp only [List.length_set, List.length_append, List.length_cons, List.length_nil]; done) | (simp only [List.length_set, List.length_append, List.length_cons, List.length_nil]; omega)) only [h1, h2, go_sem, ↓reduceIte, Nat.reduceEqDiff, Nat.reduceAdd, Nat.reduceSub, Nat.reduceMul, Nat.reduceLT, Nat.reduceLeDiff, reduceCtorEq, Int.reduceToNat])) | ((first | ((first | refine qe ?_ ?_ | refine qd ?_ ?_) <;> intro hc <;> (try simp only [hc]) <;> (try simp only [qb, qa, decide_eq_true_eq, decide_eq_false_iff_not, Bool.and_eq_true] at hc)) | refine And.intro (by first | assumption | omega | (have := qf (by assumption); omega) | (unfold qp; omega)) ?_ | simp (disch := omega) only [qc] | simp (disch := omega) only [qo] | refine qce hg.ok ?_ | refine qce g1.ok ?_ | refine qen ?_ | refine i0 _ hq ?_) <;> (try simp only [go_sem, ↓reduceIte, Nat.reduceEqDiff, Nat.reduceAdd, Nat.reduceSub, Nat.reduceMul, Nat.reduceLT, Nat.reduceLeDiff, reduceCtorEq, Int.reduceToNat])))
          all_goals first | exact ⟨fun _ => by first | trivial | exact ⟨rfl, rfl⟩, fun g => absurd hq g⟩ | (exfalso; clear i0 i1; simp_all; done)
        | true =>
          unfold ql5
          repeat' (first | refine qj ?_ | ((first | refine qbx ?_ | refine qk ?_ | refine qh ?_ | refine qg ?_) <;> (try simp (disch := first | omega | (simp only [List.length_set, List.length_append, List.length_cons, List.length_nil]; done) | (simp only [List.length_set, List.length_append, List.length_cons, List.length_nil]; omega)) only [h1, h2, go_sem, ↓reduceIte, Nat.reduceEqDiff, Nat.reduceAdd, Nat.reduceSub, Nat.reduceMul, Nat.reduceLT, Nat.reduceLeDiff, reduceCtorEq, Int.reduceToNat])) | ((first | ((first | refine qe ?_ ?_ | refine qd ?_ ?_) <;> intro hc <;> (try simp only [hc]) <;> (try simp only [qb, qa, decide_eq_true_eq, decide_eq_false_iff_not, Bool.and_eq_true] at hc)) | refine And.intro (by first | assumption | omega | (have := qf (by assumption); omega) | (unfold qp; omega)) ?_ | simp (disch := omega) only [qc] | simp (disch := omega) only [qo] | refine qce hg.ok ?_ | refine qce g1.ok ?_ | refine qen ?_ | refine i0 _ hq ?_ | refine qce g3.ok ?_) <;> (try simp only [go_sem, ↓reduceIte, Nat.reduceEqDiff, Nat.reduceAdd, Nat.reduceSub, Nat.reduceMul, Nat.reduceLT, Nat.reduceLeDiff, reduceCtorEq, Int.reduceToNat])))
          all_goals first | exact ⟨fun _ => by first | trivial | exact ⟨rfl, rfl⟩, fun g => absurd hq g⟩ | (exfalso; clear i0 i1; simp_all; done)
      · obtain rfl := hk2 hq
        have hne : l ≠ [] := hln hq
        unfold k0dc
        generalize h9 : q38 = R5
        repeat' (first | refine qj ?_ | ((first | refine qbx ?_ | refine qk ?_ | refine qh ?_ | refine qg ?_) <;> (try simp (disch := first | omega | (simp only [List.length_set, List.length_append, List.length_cons, List.length_nil]; done) | (simp only [List.length_set, List.length_append, List.length_cons, List.length_nil]; omega)) only [h1, h2, go_sem, ↓reduceIte, Nat.reduceEqDiff, Nat.reduceAdd, Nat.reduceSub, Nat.reduceMul, Nat.reduceLT, Nat.reduceLeDiff, reduceCtorEq, Int.reduceToNat])) | ((first | ((first | refine qe ?_ ?_ | refine qd ?_ ?_) <;> intro hc <;> (try simp only [hc]) <;> (try simp only [qb, qa, decide_eq_true_eq, decide_eq_false_iff_not, Bool.and_eq_true] at hc)) | refine And.intro (by first | assumption | omega | (have := qf (by assumption); omega) | (unfold qp; omega)) ?_ | simp (disch := omega) only [qc] | simp (disch := omega) only [qo] | refine qce hg.ok ?_ | refine qce g1.ok ?_ | refine qen ?_ | refine i1 _ hq ?_) <;> (try simp only [go_sem, ↓reduceIte, Nat.reduceEqDiff, Nat.reduceAdd, Nat.reduceSub, Nat.reduceMul, Nat.reduceLT, Nat.reduceLeDiff, reduceCtorEq, Int.reduceToNat])))
        all_goals first | (exfalso; clear i0 i1 h9; simp_all; done) | skip
        refine qbho (af' := ⟨[(1, .row 2 l.length), (3, .ptr 3 0), (9, .bool ok)], []⟩) (H' := [curE d, .dead, .app 5 (encs l), .blk [.ptr 0 0]]) ?_ (q83 [0, 1, 8, 2] rfl (by simp) ?_ ?_ ?_)
        rotate_left
        all_goals (try simp only [go_sem, ↓reduceIte, Nat.reduceEqDiff, Nat.reduceAdd, Nat.reduceSub, Nat.reduceMul, Nat.reduceLT, Nat.reduceLeDiff, reduceCtorEq, Int.reduceToNat])
        all_goals (try (rw [qbc, qbw]; exact ⟨rfl, rfl⟩))
        subst h9
        cases ok with
        | false =>
          unfold ql5
          repeat' (first | refine qj ?_ | ((first | refine qbx ?_ | refine qk ?_ | refine qh ?_ | refine qg ?_ | refine qce g3.ok ?_ | ((first | refine qe ?_ ?_ | refine qd ?_ ?_) <;> intro hc <;> (try simp only [hc]) <;> (try simp only [qb, qa, decide_eq_true_eq, decide_eq_false_iff_not, Bool.and_eq_true] at hc)) | refine And.intro (by first | assumption | omega | (have := qf (by assumption); omega) | (unfold qp; omega)) ?_ | simp (disch := omega) only [qc] | simp (disch := omega) only [qo]) <;> (try simp only [go_sem, ↓reduceIte, Nat.reduceEqDiff, Nat.reduceAdd, Nat.reduceSub, Nat.reduceMul, Nat.reduceLT, Nat.reduceLeDiff, reduceCtorEq, Int.reduceToNat])))
          all_goals exact ⟨fun g => absurd g hq, fun _ => by first | trivial | exact ⟨rfl, rfl⟩⟩
        | true =>
          unfold ql5
          repeat' (first | refine qj ?_ | ((first | refine qbx ?_ | refine qk ?_ | refine qh ?_ | refine qg ?_ | refine qce g3.ok ?_ | ((first | refine qe ?_ ?_ | refine qd ?_ ?_) <;> intro hc <;> (try simp only [hc]) <;> (try simp only [qb, qa, decide_eq_true_eq, decide_eq_false_iff_not, Bool.and_eq_true] at hc)) | refine And.intro (by first | assumption | omega | (have := qf (by assumption); omega) | (unfold qp; omega)) ?_ | simp (disch := omega) only [qc] | simp (disch := omega) only [qo]) <;> (try simp only [go_sem, ↓reduceIte, Nat.reduceEqDiff, Nat.reduceAdd, Nat.reduceSub, Nat.reduceMul, Nat.reduceLT, Nat.reduceLeDiff, reduceCtorEq, Int.reduceToNat])))
          all_goals exact ⟨fun g => absurd g hq, fun _ => by first | trivial | exact ⟨rfl, rfl⟩⟩
    · simp only [if_neg h2] at hk1 hk2 ⊢
      obtain rfl := hk1 (by trivial)
      repeat' (first | refine qj ?_ | ((first | refine qbx ?_ | refine qk ?_ | refine qh ?_ | refine qg ?_) <;> (try simp (disch := first | omega | (simp only [List.length_set, List.length_append, List.length_cons, List.length_nil]; done) | (simp only [List.length_set, List.length_append, List.length_cons, List.length_nil]; omega)) only [h1, h2, go_sem, ↓reduceIte, Nat.reduceEqDiff, Nat.reduceAdd, Nat.reduceSub, Nat.reduceMul, Nat.reduceLT, Nat.reduceLeDiff, reduceCtorEq, Int.reduceToNat])) | ((first | ((first | refine qe ?_ ?_ | refine qd ?_ ?_) <;> intro hc <;> (try simp only [hc]) <;> (try simp only [qb, qa, decide_eq_true_eq, decide_eq_false_iff_not, Bool.and_eq_true] at hc)) | refine And.intro (by first | assumption | omega | (have := qf (by assumption); omega) | (unfold qp; omega)) ?_ | simp (disch := omega) only [qc] | simp (disch := omega) only [qo] | refine qce hg.ok ?_ | refine qce g1.ok ?_) <;> (try simp only [go_sem, ↓reduceIte, Nat.reduceEqDiff, Nat.reduceAdd, Nat.reduceSub, Nat.reduceMul, Nat.reduceLT, Nat.reduceLeDiff, reduceCtorEq, Int.reduceToNat])))
      all_goals first | exact ⟨rfl, rfl⟩ | exact ⟨fun _ => by first | trivial | exact ⟨rfl, rfl⟩, fun g => absurd rfl g⟩ | (exfalso; simp_all; done) | (simp_all; done)
  · simp only [if_neg h1] at hk1 hk2 ⊢
    obtain rfl := hk1 (by trivial)
    repeat' (first | refine qj ?_ | ((first | refine qbx ?_ | refine qk ?_ | refine qh ?_ | refine qg ?_) <;> (try simp (disch := first | omega | (simp only [List.length_set, List.length_append, List.length_cons, List.length_nil]; done) | (simp only [List.length_set, List.length_append, List.length_cons, List.length_nil]; omega)) only [h1, go_sem, ↓reduceIte, Nat.reduceEqDiff, Nat.reduceAdd, Nat.reduceSub, Nat.reduceMul, Nat.reduceLT, Nat.reduceLeDiff, reduceCtorEq, Int.reduceToNat])) | ((first | ((first | refine qe ?_ ?_ | refine qd ?_ ?_) <;> intro hc <;> (try simp only [hc]) <;> (try simp only [qb, qa, decide_eq_true_eq, decide_eq_false_iff_not, Bool.and_eq_true] at hc)) | refine And.intro (by first | assumption | omega | (have := qf (by assumption); omega) | (unfold qp; omega)) ?_ | simp (disch := omega) only [qc] | simp (disch := omega) only [qo] | refine qce hg.ok ?_ | refine qce g1.ok ?_ | refine qen ?_) <;> (try simp only [go_sem, ↓reduceIte, Nat.reduceEqDiff, Nat.reduceAdd, Nat.reduceSub, Nat.reduceMul, Nat.reduceLT, Nat.reduceLeDiff, reduceCtorEq, Int.reduceToNat])))
    all_goals first | exact ⟨rfl, rfl⟩ | exact ⟨fun _ => by first | trivial | exact ⟨rfl, rfl⟩, fun g => absurd rfl g⟩ | (exfalso; simp_all; done) | (simp_all; done)
end Go.Proofs.Ytfjbmjplnmaclaa
