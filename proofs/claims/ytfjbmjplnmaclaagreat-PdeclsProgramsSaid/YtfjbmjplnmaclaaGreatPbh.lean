/- Texts of this proof, joined. -/
import Derived.Test.YtfjbmjplnmaclaaGreatPbd
import Derived.Test.YtfjbmjplnmaclaaGreatPbg

/- expressions: the reference: what it reads -/
set_option maxRecDepth 4000
namespace Go.Proofs.YtfjbmjplnmaclaaGreat
open Go Go.RowKit Go.V
set_option linter.unusedVariables false
set_option linter.unusedSimpArgs false

theorem qbeg {c : K} (h : begE c = true) : c.err = 0 := (qe7 (qxn h)).1
theorem qwd {c : K} (h : c.err ≠ 0) : begE c = false := by
 cases hb : begE c with
 | false => rfl
 | true => exact absurd (qbeg hb) h
def qdo (rec : K → K × N) (c : K) : K × N :=
 if begE c = true then
  if isK c [40] = true then (qcj (qi (rec (qi (qc c).1 [40]).1).1 [41]).1, (rec (qi (qc c).1 [40]).1).2)
  else (qu c, (qkd c).getD N0)
 else (qdg c 5, N0)
def qgb (rec : K → K × N) : Nat → K → N → K × N
 | 0, c, n => (c, n)
 | f + 1, c, n => if begE c = true then qgb rec f (qdo rec c).1 (appN n (qdo rec c).2) else (c, n)
def qn4 (rec : K → K × N) (c : K) : K × N := qgb rec (em (qdo rec c).1 + 1) (qdo rec c).1 (qdo rec c).2
def qz0 (l : List T) (n : N) : N := l.foldr lamN n
def qdx : Nat → K → List T → K × List T
 | 0, c, acc => (c, acc)
 | f + 1, c, acc => if (qq c).kind = 1 then qdx f (qu c) (acc ++ [qq c]) else (c, acc)
def qdu (c : K) : K × List T := qdx (em c + 1) c []
def qw2 (rec : K → K × N) (x : List UInt8) (v : K × List T) : K × N := ((rec (qi v.1 x).1).1, qz0 v.2 (rec (qi v.1 x).1).2)
def qhk (rec : K → K × N) (x : List UInt8) (c : K) : K × N := qw2 rec x (qdu c)
def qmn (rec : K → K × N) (c : K) : K × N := if (qq c).kind = 1 then qhk rec [45, 62] c else (qdg c 5, N0)
def qdz (rec : K → K × N) (c : K) : K × N :=
 if (qf (qn c 1).1 [58, 58]).2 = true then
  ((qk3 (rest (qf (qn c 1).1 [58, 58]).1 + 2) (qf (qn c 1).1 [58, 58]).1).1, qpl 32 (qev c 1) (qk3 (rest (qf (qn c 1).1 [58, 58]).1 + 2) (qf (qn c 1).1 [58, 58]).1).2)
 else ((qhk rec [61] (qn c 1).1).1, qpl 31 (qev c 1) (qhk rec [61] (qn c 1).1).2)
def qb1 (c : K) : K × Bool := ((qf c [59]).1, (qf c [59]).2 && !isK (qf c [59]).1 [125])
def qc1 (rd : K → K × N) : Nat → K → List N → K × List N
 | 0, c, acc => (c, acc)
 | f + 1, c, acc => if (qb1 (rd c).1).2 = true then qc1 rd f (qb1 (rd c).1).1 (acc ++ [(rd c).2]) else ((qb1 (rd c).1).1, acc ++ [(rd c).2])
def qgz (rd : K → K × N) (c : K) : K × List N := qc1 rd (em c + 2) c []
def q1f (rec : K → K × N) (p : Int) (L : K × List N) : K × N :=
 ((rec (qi (qi L.1 [125]).1 [105, 110]).1).1, .mk 26 p 0 [] (L.2 ++ [(rec (qi (qi L.1 [125]).1 [105, 110]).1).2]))
def qmh (rec : K → K × N) (p : Int) (c : K) : K × N := q1f rec p (qgz (qdz rec) (qi c [123]).1)
def qvj (rec : K → K × N) (p : K × N) : K × N := ((rec (qi p.1 [45, 62]).1).1, altN p.2 (rec (qi p.1 [45, 62]).1).2)
def qgr (rec : K → K × N) (c : K) : K × N := qvj rec (qeo (rest c + 2) c)
def qv1 (p : Int) (x : N) (L : K × List N) : K × N := ((qi L.1 [125]).1, .mk 27 p 0 [] (x :: L.2))
def qj2 (rec : K → K × N) (p : Int) (c : K) : K × N := qv1 p (rec c).2 (qgz (qgr rec) (qi (qi (rec c).1 [111, 102]).1 [123]).1)
def q2a (p : Int) (a b d : K × N) : K × N := (d.1, .mk 28 p 0 [] [a.2, b.2, d.2])
def qtq (rec : K → K × N) (p : Int) (a b : K × N) : K × N := q2a p a b (rec (qi b.1 [101, 108, 115, 101]).1)
def qbbf (rec : K → K × N) (p : Int) (a : K × N) : K × N := qtq rec p a (rec (qi a.1 [116, 104, 101, 110]).1)
def qmo (rec : K → K × N) (p : Int) (c : K) : K × N := qbbf rec p (rec c)
def qfp (rec : K → K × N) (c : K) : K × N :=
 if (qf c [92]).2 = true then qmn rec (qf c [92]).1
 else if (qf c [108, 101, 116]).2 = true then qmh rec (qq c).pos (qf c [108, 101, 116]).1
 else if (qf c [99, 97, 115, 101]).2 = true then qj2 rec (qq c).pos (qf c [99, 97, 115, 101]).1
 else if (qf c [105, 102]).2 = true then qmo rec (qq c).pos (qf c [105, 102]).1
 else qn4 rec c
def qg9 : Nat → K → K × N
 | 0, c => (c, N0)
 | f + 1, c => (qcj (qfp (qg9 f) (qc c).1).1, (qfp (qg9 f) (qc c).1).2)

theorem qmd : ∀ (f : Nat) (c : K) (acc : List T), Mon c (qdx f c acc).1
 | 0, c, acc => Mon.refl c
 | f + 1, c, acc => by
   rw [qdx]
   split
   ·exact (qbp c).trans (qmd f _ _)
   ·exact Mon.refl c
theorem qfn (c : K) : Mon c (qb1 c).1 := qk c _
section
variable {rec : K → K × N} (hm : ∀ c, Mon c (rec c).1)
include hm
theorem qe1 (c : K) : Mon c (qdo rec c).1 := by
 unfold qdo
 split
 ·split
  ·exact ((qm c).trans (qd _ _)).trans (qpy hm c)
  ·exact qbp c
 ·exact qef c 5
theorem qmv {c : K} (h : begE c = true) : em (qdo rec c).1 < em c := by
 unfold qdo
 rw [if_pos h]
 split
 ·have h1 := qfl (c := c) (by assumption)
  have h2 := (qpy hm c).em
  simp only; omega
 ·exact qkv (qxn h)
theorem qpb : ∀ (f : Nat) (c : K) (n : N), Mon c (qgb rec f c n).1
 | 0, c, n => Mon.refl c
 | f + 1, c, n => by
   rw [qgb]
   split
   ·exact (qe1 hm c).trans (qpb f _ _)
   ·exact Mon.refl c
theorem q0h (c : K) : Mon c (qn4 rec c).1 := (qe1 hm c).trans (qpb hm _ _ _)
theorem qox (x : List UInt8) (c : K) : Mon c (qhk rec x c).1 := ((qmd _ _ _).trans (qd _ x)).trans (hm _)
theorem qz5 (c : K) : Mon c (qmn rec c).1 := by
 unfold qmn
 split
 ·exact qox hm _ c
 ·exact qef c 5
theorem qip (c : K) : Mon c (qdz rec c).1 := by
 unfold qdz
 split
 ·exact ((qbf c 1).trans (qk _ _)).trans ((qhb (qcm _) _).trans (qcm _ _))
 ·exact (qbf c 1).trans (qox hm _ _)
omit hm in
theorem qgg {rd : K → K × N} (hd : ∀ c, Mon c (rd c).1) : ∀ (f : Nat) (c : K) (acc : List N), Mon c (qc1 rd f c acc).1
 | 0, c, acc => Mon.refl c
 | f + 1, c, acc => by
   rw [qc1]
   split
   ·exact ((hd c).trans (qfn _)).trans (qgg hd f _ _)
   ·exact (hd c).trans (qfn _)
theorem qzz (p : Int) (c : K) : Mon c (qmh rec p c).1 := ((((qd c _).trans (qgg (qip hm) _ _ _)).trans (qd _ _)).trans (qd _ _)).trans (hm _)
theorem qms (c : K) : Mon c (qgr rec c).1 := ((qh7 _ c).trans (qd _ _)).trans (hm _)
theorem qym (p : Int) (c : K) : Mon c (qj2 rec p c).1 := ((((hm c).trans (qd _ _)).trans (qd _ _)).trans (qgg (qms hm) _ _ _)).trans (qd _ _)
theorem q02 (p : Int) (c : K) : Mon c (qmo rec p c).1 := ((((hm c).trans (qd _ _)).trans (hm _)).trans (qd _ _)).trans (hm _)
theorem qo1 (c : K) : Mon c (qfp rec c).1 := by
 unfold qfp
 split
 ·exact (qk c _).trans (qz5 hm _)
 ·split
  ·exact (qk c _).trans (qzz hm _ _)
  ·split
   ·exact (qk c _).trans (qym hm _ _)
   ·split
    ·exact (qk c _).trans (q02 hm _ _)
    ·exact q0h hm c
end
theorem qlr : ∀ (f : Nat) (c : K), Mon c (qg9 f c).1
 | 0, c => Mon.refl c
 | f + 1, c => ((qm c).trans (qo1 (qlr f) _)).trans (qbv _)

/-! The program. -/
def zEC : Ent := .blk [.nils, .int .i64 0, .int .i64 0, .int .i64 0, .str [], .int .i64 0, .int .i64 0, .int .i64 0]
def zEN : Ent := .blk [.int .i64 0, .int .i64 0, .int .i64 0, .str [], .nils]
theorem qf1 (c : K) : qz Tryz.prog 146 [refC c] (.bool (begE c)) := by
 refine qj c0fr (by simp) (by simp only [go_sem]) rfl fun hw => ?_
 repeat' (first | refine vs_ ?_ | ((first | refine vr_ ?_ | refine qa (ql c) fun _ => ?_ | refine qa (qcw c _) fun _ => ?_ | (refine cs_ ?_ ?_ <;> intro hc) | refine cj_ ?_ | fail) <;> (try refine ev_ ?_)) | with_reducible exact ti_)
 all_goals (have := @qwd c; unfold begE qkd at *; simp_all)
theorem qfx (c : K) : qz Tryz.prog 155 [refC c] (.tup [refC (qb1 c).1, .bool (qb1 c).2]) := by
 refine qj c0fs (by simp) (by simp only [go_sem]) (by simp only [go_sem]) fun hw => ?_
 repeat' (first | refine vs_ ?_ | ((first | refine vr_ ?_ | refine qa (qw c _) fun _ => ?_ | refine qa (qcw _ _) fun _ => ?_ | refine qb (qw c _) ?_ | refine qb (qcw _ _) ?_ | (refine cs_ ?_ ?_ <;> intro hc) | refine cj_ ?_ | fail) <;> (try refine ev_ ?_)) | with_reducible exact ti_)
 all_goals (unfold qb1; simp_all [go_sem])
def qxm (x : Nat × K × List T) : AF × List Ent :=
 (⟨[(1, .ptr 0 0), (2, .ptr 1 0), (4, accV 2 (qcv x.2.2))], []⟩, .blk (refC x.2.1).cells :: zEC :: accE 4 (qcv x.2.2))
theorem qtc (c : K) (hg : c.good) : qz Tryz.prog 87 [refC c] (.tup [refC (qdu c).1, .sl 4 (qcv (qdu c).2)]) := by
 refine qj c0ft (by simp) (by simp only [go_sem]) (by simp only [go_sem]) fun hw => ?_
 unfold qdu
 generalize htg : qdx (em c + 1) c [] = tg
 repeat' (first | refine vs_ ?_ | ((first | refine vr_ ?_ | (refine cs_ ?_ ?_ <;> intro hc) | refine cj_ ?_ | fail) <;> (try refine ev_ ?_)) | with_reducible exact ti_)
 refine qbm (S := Nat × K × List T) (fun x => x.2.1.good ∧ qdx x.1 x.2.1 x.2.2 = tg ∧ em x.2.1 < x.1 ∧ x.2.2.length + em x.2.1 ≤ 1048578) qxm (fun x => em x.2.1) ?_ ?_
 ·refine q8 (em c + 1, c, []) [0, 1] ⟨hg, htg, Nat.lt_succ_self _, ?_⟩ rfl (by simp) ?_ ?_ ?_
  ·have h9 := hg.rest
   have h8 := qgm c
   unfold rest at h8
   simp only [List.length_nil]; omega
  all_goals simp only [qxm, zEC, qh0, qr, qt]
  all_goals (refine ev_ ?_; (try with_reducible exact ti_))
 ·rintro ⟨fu, d, acc⟩ ⟨i1, i2, i3, i4⟩
  simp only at i1 i2 i3 i4
  unfold qxm zEC
  obtain ⟨fu, rfl⟩ : ∃ k, fu = k + 1 := ⟨fu - 1, by omega⟩
  rw [qdx] at i2
  have hcap : qdp (acc.length + 1) 40 := capT (by omega)
  have g1 : (qu d).good := (qbp d).1 i1
  have hke : d.err ≠ 0 → (qq d).kind ≠ 1 := fun h => by rw [qga h]; decide
  by_cases hk : (qq d).kind = 1
  ·have he : (d.err = 0) = True := eq_true (Classical.byContradiction fun h => hke h hk)
   have hkT : ((qq d).kind = 1) = True := eq_true hk
   rw [if_pos hk] at i2
   have hlt := qkv (c := d) (by omega)
   by_cases h0 : acc = []
   ·subst h0
    simp only [qh0, qr, qt]
    repeat' (first | refine vs_ ?_ | ((first | refine vr_ ?_ | fail) <;> (try simp only [hkT, he, decide_true, go_sem, ↓reduceIte])) | ((first | (refine cs_ ?_ ?_ <;> intro hc) | refine cj_ ?_ | fail | refine qa (ql d) fun _ => ?_ | refine qa (qc3 d) fun _ => ?_) <;> (try refine ev_ ?_)) | with_reducible exact ti_)
    refine q8 (fu, qu d, [] ++ [qq d]) [0, 1, 4] ⟨⟨g1, i2, by simp only; omega, by simp only [List.length_append, List.length_cons, List.length_nil]; omega⟩, by simp only; omega⟩ rfl (by simp) ?_ ?_ ?_
    all_goals simp only [qxm, zEC, show qcv [qq d] = [encT (qq d)] from rfl, ← qf9, qbr, qbs, List.nil_append, qh0, qbx, qby, qf7]
    all_goals (refine ev_ ?_; (try with_reducible exact ti_))
    all_goals (try (rw [qf9, qil, qku]; exact ⟨rfl, rfl⟩))
   ·have hne := qnn h0
    simp only [qbc hne, qbd hne, qf7]
    repeat' (first | refine vs_ ?_ | ((first | refine vr_ ?_ | fail) <;> (try simp only [hkT, he, decide_true, go_sem, ↓reduceIte])) | ((first | (refine cs_ ?_ ?_ <;> intro hc) | refine cj_ ?_ | fail | refine qa (ql d) fun _ => ?_ | refine qa (qc3 d) fun _ => ?_) <;> (try refine ev_ ?_)) | with_reducible exact ti_)
    refine q8 (fu, qu d, acc ++ [qq d]) [0, 1, 5] ⟨⟨g1, i2, by simp only; omega, by simp only [List.length_append, List.length_cons, List.length_nil]; omega⟩, by simp only; omega⟩ rfl (by simp) ?_ ?_ ?_
    all_goals simp only [qxm, zEC, show qcv [qq d] = [encT (qq d)] from rfl, ← qf9, qbr, qbs, List.nil_append, qh0, qbx, qby, qf7]
    all_goals (refine ev_ ?_; (try with_reducible exact ti_))
    all_goals (try (rw [qf9, qil, qku]; exact ⟨rfl, rfl⟩))
  ·rw [if_neg hk] at i2
   subst i2
   by_cases h0 : acc = []
   ·subst h0
    simp only [qh0, qr, qt]
    repeat' (first | refine vs_ ?_ | ((first | refine vr_ ?_ | fail) <;> (try simp only [hk, decide_true, go_sem, ↓reduceIte])) | ((first | (refine cs_ ?_ ?_ <;> intro hc) | refine cj_ ?_ | fail | refine qa (ql d) fun _ => ?_) <;> (try refine ev_ ?_)) | with_reducible exact ti_)
    all_goals (try rfl)
   ·have hne := qnn h0
    simp only [qbc hne, qbd hne, qf7]
    repeat' (first | refine vs_ ?_ | ((first | refine vr_ ?_ | fail) <;> (try simp only [hk, decide_true, go_sem, ↓reduceIte])) | ((first | (refine cs_ ?_ ?_ <;> intro hc) | refine cj_ ?_ | fail | refine qa (ql d) fun _ => ?_) <;> (try refine ev_ ?_)) | with_reducible exact ti_)
    all_goals (try rfl)
set_option maxRecDepth 4000

theorem q52 {l : List T} {j : Nat} (n : N) (h : j < l.length) : qz0 (l.drop j) n = lamN (l.getD j T0) (qz0 (l.drop (j + 1)) n) := by
 rw [qbg5 h]; rfl
theorem q7g {P : Program} {fr : Option Nat} {k m : Nat} {a : IC} {Q : VE → AF → List Ent → Prop} {af : AF} {L : List Ent} {fl : Bool} {n : N} (h : VI P fr k m a Q af (.blk (enc n).cells :: L)) : VI P fr k m a Q af (qnz fl n :: L) := by
 cases n
 cases fl with
 | false => exact h
 | true =>
   refine qvn 0 4 (.sl 5) (by rfl) ?_
   simp only [List.getD_cons_succ, List.getD_cons_zero, if_true, qm8, List.set_cons_succ, List.set_cons_zero]
   exact h
def q21 (l : List T) (n : N) (x : Bool × Nat) : AF × List Ent :=
 (⟨[(0, .sl 4 (qcv l)), (3, .ptr 0 0), (4, .ptr 1 0), (5, .int .i64 ((x.2 : Int) - 1))], []⟩, [qnz x.1 (qz0 (l.drop x.2) n), zEN])
theorem qui (l : List T) (n : N) (hl : l.length ≤ 1048600) : qz Tryz.prog 89 [.sl 4 (qcv l), enc n] (enc (qz0 l n)) := by
 refine qj c0fn (by simp) (by simp only [go_sem]) (by simp only [go_sem]) fun hw => ?_
 repeat' (first | refine vs_ ?_ | ((first | refine vr_ ?_ | simp (disch := omega) only [qbdt] | (refine cs_ ?_ ?_ <;> intro hc) | refine cj_ ?_ | simp (disch := omega) only [qh, qs]) <;> (try refine ev_ ?_)) | with_reducible exact ti_)
 refine qbm (S := Bool × Nat) (fun x => x.2 ≤ l.length) (q21 l n) (fun x => x.2) ?_ ?_
 ·refine q8 (false, l.length) [0, 1] (Nat.le_refl _) rfl (by simp) ?_ ?_ ?_
  all_goals simp only [q21, qnz, zEN, List.drop_length, qz0, List.foldr_nil]
  all_goals (refine ev_ ?_; (try with_reducible exact ti_))
 ·rintro ⟨fl, j⟩ i1
  simp only at i1
  unfold q21
  refine q7g ?_
  unfold zEN
  cases j with
  | zero =>
    have h0 : ¬ (0 : Int) ≤ 0 - 1 := by omega
    repeat' (first | refine vs_ ?_ | ((first | refine vr_ ?_ | fail) <;> (try simp only [h0, go_sem, ↓reduceIte])) | ((first | (refine cs_ ?_ ?_ <;> intro hc) | refine cj_ ?_ | simp (disch := omega) only [qh, qs]) <;> (try refine ev_ ?_)) | with_reducible exact ti_)
    all_goals (try rfl)
  | succ j =>
    have h0 : (0 : Int) ≤ ((j + 1 : Nat) : Int) - 1 := by omega
    have h1 : (((j + 1 : Nat) : Int) - 1).toNat = j := by omega
    have h2 : ((j + 1 : Nat) : Int) - 1 - 1 = (j : Int) - 1 := by omega
    repeat' (first | refine vs_ ?_ | ((first | refine vr_ ?_ | fail) <;> (try simp only [h0, h1, h2, go_sem, ↓reduceIte])) | ((first | simp (disch := omega) only [qd0] | simp (disch := omega) only [qbdt] | (refine cs_ ?_ ?_ <;> intro hc) | refine cj_ ?_ | simp (disch := omega) only [qh, qs]) <;> (try refine ev_ ?_)) | with_reducible exact ti_)
    all_goals (
     refine q8 (true, j) [0, 1] ⟨by simp only; omega, by simp only; omega⟩ rfl (by simp) ?_ ?_ ?_
     all_goals simp only [q21, qnz, zEN, q52 n (show j < l.length by omega), lamN, encs, N.kind, N.pos, N.num, N.text, N.kids]
     all_goals (refine ev_ ?_; (try with_reducible exact ti_))
     all_goals (try rfl))
section
variable {rec : K → K × N} {b : Nat} (hm : ∀ c, Mon c (rec c).1) (ih : ∀ c, c.good → em c < b → qz Tryz.prog 88 [refC c] (.tup [refC (rec c).1, enc (rec c).2]))
include hm ih
theorem qty (c : K) (hg : c.good) (hr : em c ≤ b) : qz Tryz.prog 145 [refC c] (.tup [refC (qdo rec c).1, enc (qdo rec c).2]) := by
 have g1 : (qi (qc c).1 [40]).1.good := ((qm c).trans (qd _ _)).1 hg
 have g2 : (qi (rec (qi (qc c).1 [40]).1).1 [41]).1.good := ((hm _).trans (qd _ _)).1 g1
 refine qj c0fo (by simp) (by simp only [go_sem]) (by simp only [go_sem]) fun hw => ?_
 repeat' (first | refine vs_ ?_ | ((first | refine vr_ ?_ | refine qa (ql c) fun _ => ?_ | refine qa (qcw c _) fun _ => ?_ | refine qa (qf1 c) fun _ => ?_ | refine qa (qcr c _) fun _ => ?_ | refine qa (qcp c) fun _ => ?_ | refine qa (qba _ _) fun _ => ?_ | refine qa (ih _ g1 (Nat.lt_of_lt_of_le (qfl (by assumption)) hr)) fun _ => ?_ | refine qa (qb4 _ g2.2.2) fun _ => ?_ | refine qa (qc3 c) fun _ => ?_ | refine qb (ql c) ?_ | refine qb (qcw c _) ?_ | refine qb (qf1 c) ?_ | refine qb (qcr c _) ?_ | refine qb (qcp c) ?_ | refine qb (qba _ _) ?_ | refine qb (ih _ g1 (Nat.lt_of_lt_of_le (qfl (by assumption)) hr)) ?_ | refine qb (qb4 _ g2.2.2) ?_ | refine qb (qc3 c) ?_ | (refine cs_ ?_ ?_ <;> intro hc) | refine cj_ ?_ | fail) <;> (try refine ev_ ?_)) | with_reducible exact ti_)
 all_goals (unfold qdo; simp only [*, qds, Int.reduceEq, if_true, if_false, reduceIte, Bool.false_eq_true, Option.getD_none, Option.getD_some, Option.isSome_none, Option.isSome_some, and_self, true_and, and_true]; try rfl)
 all_goals
  have hb : begE c = true := by assumption
  have hk : isK c [40] = false := by assumption
  simp only [begE, hk, Bool.or_false] at hb
  unfold qkd qid at hb ⊢
  clear ih
  simp_all [enc, encs]
omit hm in
theorem qtz (x : List UInt8) (c : K) (hg : c.good) (hr : em c < b) : qz Tryz.prog 88 [refC (qi (qdu c).1 x).1] (.tup [refC (qhk rec x c).1, enc (rec (qi (qdu c).1 x).1).2]) := by
 have hv := qmd (em c + 1) c []
 have h1 := (hv.trans (qd _ x)).em
 exact ih _ ((hv.trans (qd _ x)).1 hg) (by unfold qdu; omega)
omit hm ih in
theorem qoy (c : K) (hg : c.good) : (qdu c).2.length ≤ 1048600 := by
 have key : ∀ (f : Nat) (c : K) (acc : List T), (qdx f c acc).2.length ≤ acc.length + em c := by
  intro f
  induction f with
  | zero => intro c acc; simp [qdx]
  | succ f ih =>
    intro c acc
    rw [qdx]
    split
    ·have h1 := ih (qu c) (acc ++ [qq c])
     have h2 := qkv (c := c) (by omega)
     simp only [List.length_append, List.length_cons, List.length_nil] at h1
     omega
    ·simp
 have h1 := key (em c + 1) c []
 have h2 := qgm c
 have h3 := hg.rest
 unfold rest at h2
 simp only [List.length_nil] at h1
 unfold qdu
 omega
omit hm in
theorem qbbm (c : K) (hg : c.good) (hr : em c < b) : qz Tryz.prog 141 [refC c] (.tup [refC (qmn rec c).1, enc (qmn rec c).2]) := by
 refine qj c0fp (by simp) (by simp only [go_sem]) (by simp only [go_sem]) fun hw => ?_
 unfold qmn
 by_cases hk : (qq c).kind = 1
 ·rw [if_pos hk]
  have hl := qtz ih [45, 62] c hg hr
  have hwp := qui (qdu c).2 (rec (qi (qdu c).1 [45, 62]).1).2 (qoy c hg)
  unfold qhk qw2 at hl ⊢
  have hvv := qtc c hg
  generalize qdu c = v at *
  repeat' (first | refine vs_ ?_ | ((first | refine vr_ ?_ | fail) <;> (try simp only [hk, ne_eq, not_true_eq_false, decide_false, go_sem, ↓reduceIte])) | ((first | (refine cs_ ?_ ?_ <;> intro hc) | refine cj_ ?_ | fail | refine qa (ql c) fun _ => ?_ | refine qa hvv fun _ => ?_ | refine qa (qba v.1 _) fun _ => ?_ | refine qa hl fun _ => ?_ | refine qa hwp fun _ => ?_ | refine qb (ql c) ?_ | refine qb hvv ?_ | refine qb (qba v.1 _) ?_ | refine qb hl ?_ | refine qb hwp ?_) <;> (try refine ev_ ?_)) | with_reducible exact ti_)
 ·rw [if_neg hk]
  repeat' (first | refine vs_ ?_ | ((first | refine vr_ ?_ | fail) <;> (try simp only [hk, ne_eq, not_false_eq_true, decide_true, go_sem, ↓reduceIte])) | ((first | (refine cs_ ?_ ?_ <;> intro hc) | refine cj_ ?_ | fail | refine qa (ql c) fun _ => ?_ | refine qa (qcr c _) fun _ => ?_ | refine qb (ql c) ?_ | refine qb (qcr c _) ?_) <;> (try refine ev_ ?_)) | with_reducible exact ti_)
  all_goals first | (rw [qds]; done) | (rw [qds]; rfl)
omit hm in
theorem qs3 (c : K) (hg : c.good) (hr : em c < b) : qz Tryz.prog 45 [refC c] (.tup [refC (qdz rec c).1, enc (qdz rec c).2]) := by
 have g1 : (qn c 1).1.good := (qbf c 1).1 hg
 have g2 : (qf (qn c 1).1 [58, 58]).1.good := (qk _ _).1 g1
 have e1 := (qbf c 1).em
 have e2 := qgm (qf (qn c 1).1 [58, 58]).1
 refine qj c0fq (by simp) (by simp only [go_sem]) (by simp only [go_sem]) fun hw => ?_
 unfold qdz
 by_cases ht : (qf (qn c 1).1 [58, 58]).2 = true
 ·rw [if_pos ht]
  have hq := q47 (rest (qf (qn c 1).1 [58, 58]).1 + 2) (qf (qn c 1).1 [58, 58]).1 g2 (by omega)
  generalize qk3 (rest (qf (qn c 1).1 [58, 58]).1 + 2) (qf (qn c 1).1 [58, 58]).1 = q at *
  repeat' (first | refine vs_ ?_ | ((first | refine vr_ ?_ | fail) <;> (try simp only [ht, go_sem, ↓reduceIte])) | ((first | (refine cs_ ?_ ?_ <;> intro hc) | refine cj_ ?_ | fail | refine qa (qbe c 1) fun _ => ?_ | refine qa (qw _ _) fun _ => ?_ | refine qa hq fun _ => ?_ | refine qb (qbe c 1) ?_ | refine qb (qw _ _) ?_ | refine qb hq ?_) <;> (try refine ev_ ?_)) | with_reducible exact ti_)
  all_goals first | (rw [qgx]; done) | (rw [qgx]; rfl)
 ·rw [if_neg ht]
  have hl := qtz ih [61] (qn c 1).1 g1 (by omega)
  have hwp := qui (qdu (qn c 1).1).2 (rec (qi (qdu (qn c 1).1).1 [61]).1).2 (qoy _ g1)
  unfold qhk qw2 at hl ⊢
  have hvv := qtc (qn c 1).1 g1
  generalize qdu (qn c 1).1 = v at *
  repeat' (first | refine vs_ ?_ | ((first | refine vr_ ?_ | fail) <;> (try simp only [ht, go_sem, ↓reduceIte])) | ((first | (refine cs_ ?_ ?_ <;> intro hc) | refine cj_ ?_ | fail | refine qa (qbe c 1) fun _ => ?_ | refine qa (qw _ _) fun _ => ?_ | refine qa hvv fun _ => ?_ | refine qa (qba v.1 _) fun _ => ?_ | refine qa hl fun _ => ?_ | refine qa hwp fun _ => ?_ | refine qb (qbe c 1) ?_ | refine qb (qw _ _) ?_ | refine qb hvv ?_ | refine qb (qba v.1 _) ?_ | refine qb hl ?_ | refine qb hwp ?_) <;> (try refine ev_ ?_)) | with_reducible exact ti_)
  all_goals first | (rw [qgx]; done) | (rw [qgx]; rfl)
end
set_option maxRecDepth 4000

theorem qjw {c : K} (h : (qb1 c).2 = true) : em (qb1 c).1 < em c := by
 unfold qb1 at h ⊢
 simp only [Bool.and_eq_true] at h
 exact qdw h.1
def qze (p : Int) (x : Bool × Nat × K × List N) : AF × List Ent :=
 (⟨[(2, .ptr 0 0), (4, .ptr 1 0), (5, .ptr 2 0), (6, .ptr 3 0), (7, .bool x.1)], []⟩,
   .blk (refC x.2.2.1).cells :: zEC :: zEN :: .blk [.int .i64 26, .int .i64 p, .int .i64 0, .str [], accV 4 (encs x.2.2.2)] :: accE 5 (encs x.2.2.2))
def qrr (p : Int) (k : N) (x : Bool × Nat × K × List N) : AF × List Ent :=
 (⟨[(2, .ptr 0 0), (4, .ptr 1 0), (5, .ptr 2 0), (7, .ptr 4 0), (8, .bool x.1)], []⟩,
   .blk (refC x.2.2.1).cells :: zEC :: zEN :: .blk (enc k).cells :: .blk [.int .i64 27, .int .i64 p, .int .i64 0, .str [], if x.2.2.2 = [] then .lit 5 [enc k] else .row 5 (x.2.2.2.length + 1)] ::
    (if x.2.2.2 = [] then [] else [.app 5 (enc k :: encs x.2.2.2)]))
section
variable {rec : K → K × N} {b : Nat} (hm : ∀ c, Mon c (rec c).1) (ih : ∀ c, c.good → em c < b → qz Tryz.prog 88 [refC c] (.tup [refC (rec c).1, enc (rec c).2]))
include hm ih
theorem qbbw (p : Int) (c : K) (hg : c.good) (hr : em c < b) : qz Tryz.prog 142 [refC c, .int .i64 p] (.tup [refC (qmh rec p c).1, enc (qmh rec p c).2]) := by
 have hd := qip hm
 have g1 : (qi c [123]).1.good := (qd _ _).1 hg
 have e1 := (qd c [123]).em
 refine qj c0fm (by simp) (by simp only [go_sem]) (by simp only [go_sem]) fun hw => ?_
 unfold qmh qgz
 have gt := (qgg hd (em (qi c [123]).1 + 2) (qi c [123]).1 []).1 g1
 have et := (qgg hd (em (qi c [123]).1 + 2) (qi c [123]).1 []).em
 generalize htg : qc1 (qdz rec) (em (qi c [123]).1 + 2) (qi c [123]).1 [] = tg at *
 repeat' (first | refine vs_ ?_ | ((first | refine vr_ ?_ | refine qa (qba c _) fun _ => ?_ | refine qb (qba c _) ?_ | (refine cs_ ?_ ?_ <;> intro hc) | refine cj_ ?_ | fail) <;> (try refine ev_ ?_)) | with_reducible exact ti_)
 refine qbm (S := Bool × Nat × K × List N) (fun x => x.2.2.1.good ∧ em x.2.2.1 < b ∧ (x.1 = true → qc1 (qdz rec) x.2.1 x.2.2.1 x.2.2.2 = tg ∧ em x.2.2.1 < x.2.1) ∧ (x.1 = false → tg = (x.2.2.1, x.2.2.2) ∧ x.2.2.2 ≠ []) ∧ x.2.2.2.length + (if x.1 = true then em x.2.2.1 + 1 else 0) ≤ 1048579)
  (qze p) (fun x => if x.1 = true then em x.2.2.1 + 1 else 0) ?_ ?_
 ·refine q8 (true, em (qi c [123]).1 + 2, (qi c [123]).1, []) [0, 1, 2, 3] ⟨g1, by simp only; omega, fun _ => ⟨htg, by simp only; omega⟩, (by intro h; cases h), ?_⟩ rfl (by simp) ?_ ?_ ?_
  ·have h9 := g1.rest
   have h8 := qgm (qi c [123]).1
   unfold rest at h8
   simp only [List.length_nil, if_true]; omega
  all_goals simp only [qze, zEC, zEN, encs, qr, qt]
  all_goals (refine ev_ ?_; (try with_reducible exact ti_))
 ·rintro ⟨on, fu, d, acc⟩ ⟨i1, i2, i3, i4, i5⟩
  simp only at i1 i2 i3 i4 i5
  unfold qze zEC zEN
  have hcap : qdp (acc.length + 1) 64 := capN (by split at i5 <;> omega)
  cases on with
  | false =>
    obtain ⟨i4, h0⟩ := i4 rfl
    subst i4
    have hne := q9 h0
    have g2 : (qi (qi d [125]).1 [105, 110]).1.good := ((qd _ _).trans (qd _ _)).1 i1
    have e2 := ((qd d [125]).trans (qd _ [105, 110])).em
    have hx := ih _ g2 (by omega)
    unfold q1f
    simp only [qbc hne, qbd hne, qx]
    repeat' (first | refine vs_ ?_ | ((first | refine vr_ ?_ | refine qa (qba _ _) fun _ => ?_ | refine qa hx fun _ => ?_ | refine qb (qba _ _) ?_ | refine qb hx ?_ | (refine cs_ ?_ ?_ <;> intro hc) | refine cj_ ?_ | fail) <;> (try refine ev_ ?_)) | with_reducible exact ti_)
    exact ⟨by rw [qe, qo], by simp only [enc, qe]⟩
  | true =>
    obtain ⟨i3, i6⟩ := i3 rfl
    obtain ⟨fu, rfl⟩ : ∃ k, fu = k + 1 := ⟨fu - 1, by omega⟩
    rw [qc1] at i3
    have hx := qs3 ih d i1 i2
    have j1 := (hd d).1 i1
    have j2 := (hd d).em
    generalize qdz rec d = r at *
    obtain ⟨d', n⟩ := r
    simp only at hx j1 j2 i3
    have j3 : (qb1 d').1.good := (qfn d').1 j1
    have j4 := (qfn d').em
    have k3 : (qb1 d').2 = true → qc1 (qdz rec) fu (qb1 d').1 (acc ++ [n]) = tg ∧ em (qb1 d').1 < fu := fun h => by
     rw [if_pos h] at i3
     have := qjw h
     exact ⟨i3, by omega⟩
    have k4 : (qb1 d').2 = false → tg = ((qb1 d').1, acc ++ [n]) ∧ acc ++ [n] ≠ [] := fun h => by
     rw [if_neg (by rw [h]; simp)] at i3
     exact ⟨i3.symm, by simp⟩
    have k5 : (if (qb1 d').2 = true then em (qb1 d').1 + 1 else 0) < em d + 1 := by
     split
     ·rename_i h; have := qjw h; omega
     ·omega
    have k6 : (acc ++ [n]).length + (if (qb1 d').2 = true then em (qb1 d').1 + 1 else 0) ≤ 1048579 := by
     simp only [if_true] at i5
     simp only [List.length_append, List.length_cons, List.length_nil]
     omega
    by_cases h0 : acc = []
    ·subst h0
     simp only [encs, qr, qt]
     repeat' (first | refine vs_ ?_ | ((first | refine vr_ ?_ | refine qa hx fun _ => ?_ | refine qa (qfx d') fun _ => ?_ | refine qb hx ?_ | refine qb (qfx d') ?_ | (refine cs_ ?_ ?_ <;> intro hc) | refine cj_ ?_ | fail) <;> (try refine ev_ ?_)) | with_reducible exact ti_)
     all_goals (
      refine q8 ((qb1 d').2, fu, (qb1 d').1, [] ++ [n]) [0, 1, 2, 3, 6] ⟨⟨j3, by simp only; omega, k3, k4, k6⟩, by simpa using k5⟩ rfl (by simp) ?_ ?_ ?_
      all_goals simp only [qze, zEC, zEN, ← qe, qbr, qbs, List.nil_append, encs, qbx, qby]
      all_goals (refine ev_ ?_; (try with_reducible exact ti_))
      all_goals (try (rw [qe, qo, qbb]; exact ⟨rfl, rfl⟩)))
    ·have hne := q9 h0
     simp only [qbc hne, qbd hne, qx]
     repeat' (first | refine vs_ ?_ | ((first | refine vr_ ?_ | refine qa hx fun _ => ?_ | refine qa (qfx d') fun _ => ?_ | refine qb hx ?_ | refine qb (qfx d') ?_ | (refine cs_ ?_ ?_ <;> intro hc) | refine cj_ ?_ | fail) <;> (try refine ev_ ?_)) | with_reducible exact ti_)
     all_goals (
      refine q8 ((qb1 d').2, fu, (qb1 d').1, acc ++ [n]) [0, 1, 2, 3, 7] ⟨⟨j3, by simp only; omega, k3, k4, k6⟩, by simpa using k5⟩ rfl (by simp) ?_ ?_ ?_
      all_goals simp only [qze, zEC, zEN, ← qe, qbr, qbs, List.nil_append, encs, qbx, qby]
      all_goals (refine ev_ ?_; (try with_reducible exact ti_))
      all_goals (try (rw [qe, qo, qbb]; exact ⟨rfl, rfl⟩)))
end
set_option maxRecDepth 4000

section
variable {rec : K → K × N} {b : Nat} (hm : ∀ c, Mon c (rec c).1) (ih : ∀ c, c.good → em c < b → qz Tryz.prog 88 [refC c] (.tup [refC (rec c).1, enc (rec c).2]))
include hm ih
theorem q05 (p : Int) (c : K) (hg : c.good) (hr : em c < b) : qz Tryz.prog 143 [refC c, .int .i64 p] (.tup [refC (qj2 rec p c).1, enc (qj2 rec p c).2]) := by
 have hd := qms hm
 have hx := ih c hg hr
 have g0 := (hm c).1 hg
 have e0 := (hm c).em
 refine qj c0fk (by simp) (by simp only [go_sem]) (by simp only [go_sem]) fun hw => ?_
 unfold qj2 qgz
 generalize rec c = r0 at *
 obtain ⟨d0, k⟩ := r0
 simp only at hx g0 e0 ⊢
 have g1 : (qi (qi d0 [111, 102]).1 [123]).1.good := ((qd _ _).trans (qd _ _)).1 g0
 have e1 := ((qd d0 [111, 102]).trans (qd _ [123])).em
 generalize htg : qc1 (qgr rec) (em (qi (qi d0 [111, 102]).1 [123]).1 + 2) (qi (qi d0 [111, 102]).1 [123]).1 [] = tg at *
 repeat' (first | refine vs_ ?_ | ((first | refine vr_ ?_ | refine qa hx fun _ => ?_ | refine qa (qba _ _) fun _ => ?_ | refine qb hx ?_ | refine qb (qba _ _) ?_ | (refine cs_ ?_ ?_ <;> intro hc) | refine cj_ ?_ | fail) <;> (try refine ev_ ?_)) | with_reducible exact ti_)
 refine qbm (S := Bool × Nat × K × List N) (fun x => x.2.2.1.good ∧ em x.2.2.1 < b ∧ (x.1 = true → qc1 (qgr rec) x.2.1 x.2.2.1 x.2.2.2 = tg ∧ em x.2.2.1 < x.2.1) ∧ (x.1 = false → tg = (x.2.2.1, x.2.2.2) ∧ x.2.2.2 ≠ []) ∧ x.2.2.2.length + (if x.1 = true then em x.2.2.1 + 1 else 0) ≤ 1048579)
  (qrr p k) (fun x => if x.1 = true then em x.2.2.1 + 1 else 0) ?_ ?_
 ·refine q8 (true, em (qi (qi d0 [111, 102]).1 [123]).1 + 2, (qi (qi d0 [111, 102]).1 [123]).1, []) [0, 1, 2, 3, 4] ⟨g1, by simp only; omega, fun _ => ⟨htg, by simp only; omega⟩, (by intro h; cases h), ?_⟩ rfl (by simp) ?_ ?_ ?_
  ·have h9 := g1.rest
   have h8 := qgm (qi (qi d0 [111, 102]).1 [123]).1
   unfold rest at h8
   simp only [List.length_nil, if_true]; omega
  all_goals simp only [qrr, zEC, zEN, if_true]
  all_goals (refine ev_ ?_; (try with_reducible exact ti_))
 ·rintro ⟨on, fu, d, acc⟩ ⟨i1, i2, i3, i4, i5⟩
  simp only at i1 i2 i3 i4 i5
  unfold qrr zEC zEN
  cases on with
  | false =>
    obtain ⟨i4, h0⟩ := i4 rfl
    subst i4
    unfold qv1
    simp only [if_neg h0]
    repeat' (first | refine vs_ ?_ | ((first | refine vr_ ?_ | refine qa (qba _ _) fun _ => ?_ | refine qb (qba _ _) ?_ | (refine cs_ ?_ ?_ <;> intro hc) | refine cj_ ?_ | fail) <;> (try refine ev_ ?_)) | with_reducible exact ti_)
    simp only [enc, encs]
  | true =>
    have hcap : qdp (acc.length + 1 + 1) 64 := capN (by simp only [if_true] at i5; omega)
    obtain ⟨i3, i6⟩ := i3 rfl
    obtain ⟨fu, rfl⟩ : ∃ k, fu = k + 1 := ⟨fu - 1, by omega⟩
    rw [qc1] at i3
    have hp := qbcc (rest d + 2) d i1 (by have := qgm d; omega)
    have q1 := (qh7 (rest d + 2) d).1 i1
    have q2 := (qh7 (rest d + 2) d).em
    have j1 := (hd d).1 i1
    have j2 := (hd d).em
    unfold qgr qvj at i3 j1 j2
    generalize qeo (rest d + 2) d = pr at *
    obtain ⟨d1, pt⟩ := pr
    simp only at hp q1 q2 i3 j1 j2
    have q3 : (qi d1 [45, 62]).1.good := (qd _ _).1 q1
    have hx := ih (qi d1 [45, 62]).1 q3 (by have := (qd d1 [45, 62]).em; omega)
    generalize rec (qi d1 [45, 62]).1 = r at *
    obtain ⟨d', e⟩ := r
    simp only at hx j1 j2 i3
    have j3 : (qb1 d').1.good := (qfn d').1 j1
    have j4 := (qfn d').em
    have k3 : (qb1 d').2 = true → qc1 (qgr rec) fu (qb1 d').1 (acc ++ [altN pt e]) = tg ∧ em (qb1 d').1 < fu := fun h => by
     rw [if_pos h] at i3
     have := qjw h
     exact ⟨i3, by omega⟩
    have k4 : (qb1 d').2 = false → tg = ((qb1 d').1, acc ++ [altN pt e]) ∧ acc ++ [altN pt e] ≠ [] := fun h => by
     rw [if_neg (by rw [h]; simp)] at i3
     exact ⟨i3.symm, by simp⟩
    have k5 : (if (qb1 d').2 = true then em (qb1 d').1 + 1 else 0) < em d + 1 := by
     split
     ·rename_i h; have := qjw h; omega
     ·omega
    have k6 : (acc ++ [altN pt e]).length + (if (qb1 d').2 = true then em (qb1 d').1 + 1 else 0) ≤ 1048579 := by
     simp only [if_true] at i5
     simp only [List.length_append, List.length_cons, List.length_nil]
     omega
    by_cases h0 : acc = []
    ·subst h0
     have hcap2 : qdp 2 64 := capN (by omega)
     clear hcap
     simp only [if_true]
     repeat' (first | refine vs_ ?_ | ((first | refine vr_ ?_ | fail) <;> (try simp only [hcap2, go_sem, ↓reduceIte])) | ((first | (refine cs_ ?_ ?_ <;> intro hc) | refine cj_ ?_ | fail | refine qa hp fun _ => ?_ | refine qa (qba _ _) fun _ => ?_ | refine qa hx fun _ => ?_ | refine qa (qfx d') fun _ => ?_ | refine qb hp ?_ | refine qb (qba _ _) ?_ | refine qb hx ?_ | refine qb (qfx d') ?_) <;> (try refine ev_ ?_)) | with_reducible exact ti_)
     all_goals (
      have hne : ¬ [] ++ [altN pt e] = [] := by simp
      refine q8 ((qb1 d').2, fu, (qb1 d').1, [] ++ [altN pt e]) [0, 1, 2, 3, 4, 8] ⟨⟨j3, by simp only; omega, k3, k4, k6⟩, by simpa using k5⟩ rfl (by simp) ?_ ?_ ?_
      all_goals simp only [qrr, zEC, zEN, if_neg hne, List.length_append, List.length_cons, List.length_nil]
      all_goals (try simp only [← qe, List.nil_append, encs, altN, enc])
      all_goals (refine ev_ ?_; (try with_reducible exact ti_))
      all_goals (try (rw [qsl, qe, qo, qbb]; exact ⟨rfl, rfl⟩)))
    ·simp only [if_neg h0]
     have hlen : (enc k :: encs acc).length = acc.length + 1 := by simp [qx]
     repeat' (first | refine vs_ ?_ | ((first | refine vr_ ?_ | fail) <;> (try simp only [hlen, hcap, go_sem, ↓reduceIte])) | ((first | (refine cs_ ?_ ?_ <;> intro hc) | refine cj_ ?_ | fail | refine qa hp fun _ => ?_ | refine qa (qba _ _) fun _ => ?_ | refine qa hx fun _ => ?_ | refine qa (qfx d') fun _ => ?_ | refine qb hp ?_ | refine qb (qba _ _) ?_ | refine qb hx ?_ | refine qb (qfx d') ?_) <;> (try refine ev_ ?_)) | with_reducible exact ti_)
     all_goals (
      have hne : ¬ acc ++ [altN pt e] = [] := by simp
      refine q8 ((qb1 d').2, fu, (qb1 d').1, acc ++ [altN pt e]) [0, 1, 2, 3, 4, 9] ⟨⟨j3, by simp only; omega, k3, k4, k6⟩, by simpa using k5⟩ rfl (by simp) ?_ ?_ ?_
      all_goals simp only [qrr, zEC, zEN, if_neg hne, List.length_append, List.length_cons, List.length_nil]
      all_goals (try simp only [← qe, List.nil_append, encs, altN, enc])
      all_goals (refine ev_ ?_; (try with_reducible exact ti_))
      all_goals (try (rw [qsl, qe, qo, qbb]; exact ⟨rfl, rfl⟩)))
theorem q9i (p : Int) (c : K) (hg : c.good) (hr : em c < b) : qz Tryz.prog 144 [refC c, .int .i64 p] (.tup [refC (qmo rec p c).1, enc (qmo rec p c).2]) := by
 have h1 := ih c hg hr
 have g1 := (hm c).1 hg
 have e1 := (hm c).em
 refine qj c0fl (by simp) (by simp only [go_sem]) (by simp only [go_sem]) fun hw => ?_
 unfold qmo qbbf
 generalize rec c = r1 at *
 obtain ⟨d1, n1⟩ := r1
 simp only at h1 g1 e1 ⊢
 have g2 : (qi d1 [116, 104, 101, 110]).1.good := (qd _ _).1 g1
 have e2 := (qd d1 [116, 104, 101, 110]).em
 have h2 := ih _ g2 (by omega)
 have g3 := (hm (qi d1 [116, 104, 101, 110]).1).1 g2
 have e3 := (hm (qi d1 [116, 104, 101, 110]).1).em
 unfold qtq
 generalize rec (qi d1 [116, 104, 101, 110]).1 = r2 at *
 obtain ⟨d2, n2⟩ := r2
 simp only at h2 g3 e3 ⊢
 have g4 : (qi d2 [101, 108, 115, 101]).1.good := (qd _ _).1 g3
 have e4 := (qd d2 [101, 108, 115, 101]).em
 have h3 := ih _ g4 (by omega)
 unfold q2a
 generalize rec (qi d2 [101, 108, 115, 101]).1 = r3 at *
 obtain ⟨d3, n3⟩ := r3
 simp only at h3 ⊢
 repeat' (first | refine vs_ ?_ | ((first | refine vr_ ?_ | refine qa h1 fun _ => ?_ | refine qa h2 fun _ => ?_ | refine qa h3 fun _ => ?_ | refine qa (qba _ _) fun _ => ?_ | refine qb h1 ?_ | refine qb h2 ?_ | refine qb h3 ?_ | refine qb (qba _ _) ?_ | (refine cs_ ?_ ?_ <;> intro hc) | refine cj_ ?_ | fail) <;> (try refine ev_ ?_)) | with_reducible exact ti_)
 all_goals (simp only [enc, encs])
end
set_option maxRecDepth 4000

theorem q8a {P : Program} {fr : Option Nat} {k m : Nat} {a : IC} {Q : VE → AF → List Ent → Prop} {af : AF} {A B C : Ent} {L : List Ent} {fl : Bool} {n : N} (h : VI P fr k m a Q af (A :: B :: C :: .blk (enc n).cells :: L)) : VI P fr k m a Q af (A :: B :: C :: qnz fl n :: L) := by
 cases n
 cases fl with
 | false => exact h
 | true =>
   refine qvn 3 4 (.sl 5) (by rfl) ?_
   simp only [List.getD_cons_succ, List.getD_cons_zero, if_true, qm8, List.set_cons_succ, List.set_cons_zero]
   exact h
def qvh (x : Bool × Nat × K × N) : AF × List Ent :=
 (⟨[(1, .ptr 0 0), (2, .ptr 1 0), (3, .ptr 2 0), (13, .ptr 3 0)], []⟩, [.blk (refC x.2.2.1).cells, zEC, zEN, qnz x.1 x.2.2.2])
section
variable {rec : K → K × N} {b : Nat} (hm : ∀ c, Mon c (rec c).1) (ih : ∀ c, c.good → em c < b → qz Tryz.prog 88 [refC c] (.tup [refC (rec c).1, enc (rec c).2]))
include hm ih
theorem q4y (c : K) (hg : c.good) (hr : em c ≤ b) : qz Tryz.prog 124 [refC c] (.tup [refC (qfp rec c).1, enc (qfp rec c).2]) := by
 have g1 : (qf c [92]).1.good := (qk _ _).1 hg
 have g2 : (qf c [108, 101, 116]).1.good := (qk _ _).1 hg
 have g3 : (qf c [99, 97, 115, 101]).1.good := (qk _ _).1 hg
 have g4 : (qf c [105, 102]).1.good := (qk _ _).1 hg
 have hb : (UInt8.ofNat 92) = 92 := rfl
 refine qj c0fi (by simp) (by simp only [go_sem]) (by simp only [go_sem]) fun hw => ?_
 unfold qfp
 by_cases t1 : (qf c [92]).2 = true
 ·rw [if_pos t1]
  have hl := qbbm ih _ g1 (Nat.lt_of_lt_of_le (qdw t1) hr)
  repeat' (first | refine vs_ ?_ | ((first | refine vr_ ?_ | fail) <;> (try simp only [hb, t1, go_sem, ↓reduceIte])) | ((first | (refine cs_ ?_ ?_ <;> intro hc) | refine cj_ ?_ | fail | refine qa (ql c) fun _ => ?_ | refine qa (qw c _) fun _ => ?_ | refine qa hl fun _ => ?_ | refine qb (ql c) ?_ | refine qb (qw c _) ?_ | refine qb hl ?_) <;> (try refine ev_ ?_)) | with_reducible exact ti_)
 ·have t1f : (qf c [92]).2 = false := by simpa using t1
  rw [if_neg t1]
  by_cases t2 : (qf c [108, 101, 116]).2 = true
  ·rw [if_pos t2]
   have hl := qbbw hm ih (qq c).pos _ g2 (Nat.lt_of_lt_of_le (qdw t2) hr)
   repeat' (first | refine vs_ ?_ | ((first | refine vr_ ?_ | fail) <;> (try simp only [hb, t1f, t2, go_sem, ↓reduceIte])) | ((first | (refine cs_ ?_ ?_ <;> intro hc) | refine cj_ ?_ | fail | refine qa (ql c) fun _ => ?_ | refine qa (qw c _) fun _ => ?_ | refine qa hl fun _ => ?_ | refine qb (ql c) ?_ | refine qb (qw c _) ?_ | refine qb hl ?_) <;> (try refine ev_ ?_)) | with_reducible exact ti_)
  ·have t2f : (qf c [108, 101, 116]).2 = false := by simpa using t2
   rw [if_neg t2]
   by_cases t3 : (qf c [99, 97, 115, 101]).2 = true
   ·rw [if_pos t3]
    have hl := q05 hm ih (qq c).pos _ g3 (Nat.lt_of_lt_of_le (qdw t3) hr)
    repeat' (first | refine vs_ ?_ | ((first | refine vr_ ?_ | fail) <;> (try simp only [hb, t1f, t2f, t3, go_sem, ↓reduceIte])) | ((first | (refine cs_ ?_ ?_ <;> intro hc) | refine cj_ ?_ | fail | refine qa (ql c) fun _ => ?_ | refine qa (qw c _) fun _ => ?_ | refine qa hl fun _ => ?_ | refine qb (ql c) ?_ | refine qb (qw c _) ?_ | refine qb hl ?_) <;> (try refine ev_ ?_)) | with_reducible exact ti_)
   ·have t3f : (qf c [99, 97, 115, 101]).2 = false := by simpa using t3
    rw [if_neg t3]
    by_cases t4 : (qf c [105, 102]).2 = true
    ·rw [if_pos t4]
     have hl := q9i hm ih (qq c).pos _ g4 (Nat.lt_of_lt_of_le (qdw t4) hr)
     repeat' (first | refine vs_ ?_ | ((first | refine vr_ ?_ | fail) <;> (try simp only [hb, t1f, t2f, t3f, t4, go_sem, ↓reduceIte])) | ((first | (refine cs_ ?_ ?_ <;> intro hc) | refine cj_ ?_ | fail | refine qa (ql c) fun _ => ?_ | refine qa (qw c _) fun _ => ?_ | refine qa hl fun _ => ?_ | refine qb (ql c) ?_ | refine qb (qw c _) ?_ | refine qb hl ?_) <;> (try refine ev_ ?_)) | with_reducible exact ti_)
    ·have t4f : (qf c [105, 102]).2 = false := by simpa using t4
     rw [if_neg t4]
     have ha := qty hm ih c hg hr
     have j0 := (qe1 hm c).1 hg
     have e0 := (qe1 hm c).em
     unfold qn4
     generalize qdo rec c = r0 at *
     obtain ⟨d0, n0⟩ := r0
     simp only at ha j0 e0
     generalize htg : qgb rec (em (d0, n0).1 + 1) (d0, n0).1 (d0, n0).2 = tg
     simp only at htg
     repeat' (first | refine vs_ ?_ | ((first | refine vr_ ?_ | fail) <;> (try simp only [hb, t1f, t2f, t3f, t4f, go_sem, ↓reduceIte])) | ((first | (refine cs_ ?_ ?_ <;> intro hc) | refine cj_ ?_ | fail | refine qa (ql c) fun _ => ?_ | refine qa (qw c _) fun _ => ?_ | refine qa ha fun _ => ?_ | refine qb (ql c) ?_ | refine qb (qw c _) ?_ | refine qb ha ?_) <;> (try refine ev_ ?_)) | with_reducible exact ti_)
     refine qbm (S := Bool × Nat × K × N) (fun x => x.2.2.1.good ∧ em x.2.2.1 ≤ b ∧ qgb rec x.2.1 x.2.2.1 x.2.2.2 = tg ∧ em x.2.2.1 < x.2.1) qvh (fun x => em x.2.2.1) ?_ ?_
     ·refine q8 (false, em d0 + 1, d0, n0) [0, 1, 2, 7] ⟨j0, by simp only; omega, htg, Nat.lt_succ_self _⟩ rfl (by simp) ?_ ?_ ?_
      all_goals simp only [qvh, qnz, zEC, zEN]
      all_goals (refine ev_ ?_; (try with_reducible exact ti_))
     ·rintro ⟨fl, fu, d, n⟩ ⟨i1, i2, i3, i4⟩
      simp only at i1 i2 i3 i4
      unfold qvh zEC zEN
      refine q8a ?_
      obtain ⟨fu, rfl⟩ : ∃ k, fu = k + 1 := ⟨fu - 1, by omega⟩
      rw [qgb] at i3
      have ha2 := qty hm ih d i1 i2
      have j1 := (qe1 hm d).1 i1
      have e1 := (qe1 hm d).em
      have hlt := qmv hm (c := d)
      generalize qdo rec d = r at *
      obtain ⟨d', k⟩ := r
      simp only at ha2 j1 e1 hlt i3
      by_cases hbg : begE d = true
      ·rw [if_pos hbg] at i3
       have hlt := hlt hbg
       repeat' (first | refine vs_ ?_ | ((first | refine vr_ ?_ | fail) <;> (try simp only [hbg, go_sem, ↓reduceIte])) | ((first | (refine cs_ ?_ ?_ <;> intro hc) | refine cj_ ?_ | fail | refine qa (qf1 d) fun _ => ?_ | refine qa ha2 fun _ => ?_ | refine qb (qf1 d) ?_ | refine qb ha2 ?_) <;> (try refine ev_ ?_)) | with_reducible exact ti_)
       refine q8 (true, fu, d', appN n k) [0, 1, 2, 3] ⟨⟨j1, by simp only; omega, i3, by simp only; omega⟩, by simp only; omega⟩ rfl (by simp) ?_ ?_ ?_
       all_goals simp only [qvh, zEC, zEN, qnz, appN, encs, N.kind, N.pos, N.num, N.text, N.kids]
       all_goals (refine ev_ ?_; (try with_reducible exact ti_))
      ·rw [if_neg hbg] at i3
       subst i3
       repeat' (first | refine vs_ ?_ | ((first | refine vr_ ?_ | fail) <;> (try simp only [hbg, go_sem, ↓reduceIte])) | ((first | (refine cs_ ?_ ?_ <;> intro hc) | refine cj_ ?_ | fail | refine qa (qf1 d) fun _ => ?_ | refine qb (qf1 d) ?_) <;> (try refine ev_ ?_)) | with_reducible exact ti_)
       all_goals (try rfl)
end
theorem qww {f : Nat} (ih : ∀ c, c.good → em c < f → qz Tryz.prog 88 [refC c] (.tup [refC (qg9 f c).1, enc (qg9 f c).2])) (c : K) (hg : c.good) (hr : em c < f + 1) :
 qz Tryz.prog 88 [refC c] (.tup [refC (qg9 (f + 1) c).1, enc (qg9 (f + 1) c).2]) := by
 have hm := qlr f
 have g1 : (qc c).1.good := (qm c).1 hg
 have hr1 : em (qc c).1 ≤ f := by have := (qm c).em; omega
 have ho := q4y hm ih _ g1 hr1
 have g2 := (qo1 hm (qc c).1).1 g1
 refine qj c0fj (by simp) (by simp only [go_sem]) (by simp only [go_sem]) fun hw => ?_
 rw [qg9]
 generalize qfp (qg9 f) (qc c).1 = r at *
 repeat' (first | refine vs_ ?_ | ((first | refine vr_ ?_ | refine qa (qcp c) fun _ => ?_ | refine qa ho fun _ => ?_ | refine qa (qb4 _ g2.2.2) fun _ => ?_ | refine qb (qcp c) ?_ | refine qb ho ?_ | refine qb (qb4 _ g2.2.2) ?_ | (refine cs_ ?_ ?_ <;> intro hc) | refine cj_ ?_ | fail) <;> (try refine ev_ ?_)) | with_reducible exact ti_)
theorem qbi8 (f : Nat) : ∀ c : K, c.good → em c < f → qz Tryz.prog 88 [refC c] (.tup [refC (qg9 f c).1, enc (qg9 f c).2]) := by
 induction f with
 | zero => exact fun c _ h => absurd h (by omega)
 | succ f ih => exact qww ih

def NoEnd (c : K) : Prop := ∀ t ∈ c.l, t.kind ≠ 0
theorem NoEnd.mon {c c' : K} (h : NoEnd c) (m : Mon c c') : NoEnd c' := by unfold NoEnd; rw [m.2.2.2.1]; exact h
theorem qbmg (r : K × Option N) : toO (ofO r) = r := by
 obtain ⟨c, o⟩ := r
 cases o <;> rfl
theorem qfi {p : R3} {r : K × N} (h1 : p.1 = r.1) (h2 : p.2.2 = true → p.2.1 = r.2) (h3 : p.2.2 = false → p.1.err ≠ 0) : qd6 (toO p) r := by
 obtain ⟨d, n, ok⟩ := p
 cases ok with
 | false => exact ⟨h1, (fun n h => by cases h), fun _ => h3 rfl⟩
 | true => exact ⟨h1, (fun n h => by cases h; exact h2 rfl), (fun h => by cases h)⟩
theorem qpu {p : R3} {r : K × N} (h : qd6 (toO p) r) : p.1 = r.1 := h.1
theorem q3a {p : R3} {r : K × N} (h : qd6 (toO p) r) (hs : p.2.2 = true) : p.2.1 = r.2 := h.2.1 _ (by unfold toO; simp only; rw [if_pos hs])
theorem q24 {p : R3} {r : K × N} (h : qd6 (toO p) r) (hs : p.2.2 = false) : p.1.err ≠ 0 := h.2.2 (by unfold toO; simp only; rw [if_neg (by rw [hs]; simp)])
theorem qiw {p : K × Option N} {r : K × N} (h : qd6 p r) (hs : ¬ p.2.isSome = true) : p.1.err ≠ 0 := h.2.2 (by
 cases ho : p.2 with
 | none => rfl
 | some n => rw [ho] at hs; exact absurd rfl hs)
theorem qiu {p : K × Option N} {r : K × N} (h : qd6 p r) (hs : p.2.isSome = true) : p.2.getD N0 = r.2 := by
 obtain ⟨n, hn⟩ := Option.isSome_iff_exists.1 hs
 rw [hn]
 exact h.2.1 n hn
theorem qzo {rec : K → K × N} {c : K} (h : c.err ≠ 0) : qdo rec c = (c, N0) := by
 rw [qdo, if_neg (by rw [qwd h]; simp), qfj h]
theorem qlb {rec : K → K × N} {c : K} (h : c.err ≠ 0) (f : Nat) (n : N) : qgb rec f c n = (c, n) := by
 cases f with
 | zero => rfl
 | succ f => rw [qgb, if_neg (by rw [qwd h]; simp)]
theorem qqu {c : K} (h : c.err ≠ 0) (f : Nat) (acc : List T) : qdx f c acc = (c, acc) := by
 cases f with
 | zero => rfl
 | succ f => rw [qdx, qga h, if_neg (by decide)]
theorem qk0 {c : K} {k : Int} (h : c.err ≠ 0) : qn c k = (c, false) := by rw [qv8 h, qfj h]
theorem qmr : ∀ (f : Nat) (c : K) (acc : List T), qdx f c acc = ((qdx f c []).1, acc ++ (qdx f c []).2)
 | 0, c, acc => by simp [qdx]
 | f + 1, c, acc => by
   rw [qdx, qdx]
   split
   ·rw [qmr f _ (acc ++ [qq c]), qmr f _ ([] ++ [qq c])]
    simp
   ·simp
section
variable {rp : K → K × Option N} {rr : K → K × N} {b : Nat} (hx : ∀ c : K, c.err ≠ 0 → (rr c).1 = c) (ih : ∀ c, NoEnd c → em c < b → qd6 (rp c) (rr c))
include hx ih
theorem qqt {c : K} (hn : NoEnd c) (hr : em c ≤ b) : qd6 (qbl rp c) (qdo rr c) := by
 unfold qbl qdo
 by_cases hl : (qkd c).isSome = true
 ·have hk : ¬ isK c [40] = true := by
   intro h
   obtain ⟨n, hn⟩ := Option.isSome_iff_exists.1 hl
   simp only [isK, qj7, Bool.and_eq_true, Bool.or_eq_true, decide_eq_true_eq] at h
   unfold qkd at hn
   rw [if_neg (by omega), if_neg (by omega), if_neg (by omega)] at hn
   cases hn
  rw [if_pos hl, if_pos (show begE c = true by simp [begE, hl]), if_neg hk]
  exact ⟨rfl, fun n h => by simp only at h ⊢; rw [h]; rfl, fun h => by simp only at h; rw [h] at hl; cases hl⟩
 ·rw [if_neg hl]
  by_cases hk : isK c [40] = true
  ·rw [if_pos hk, if_pos (show begE c = true by simp [begE, hk]), if_pos hk]
   have hem := qfl hk
   by_cases he : (qc c).2 = true
   ·rw [if_pos he]
    have hk' : isK (qc c).1 [40] = true := by rw [qpv he]; exact hk
    rw [qp4 hk'] at hem ⊢
    simp only at hem ⊢
    obtain ⟨a1, a2, a3⟩ := ih (qu (qc c).1) (hn.mon ((qm c).trans (qbp _))) (by omega)
    rw [← a1]
    generalize rp (qu (qc c).1) = r at *
    obtain ⟨d, o⟩ := r
    simp only at a1 a2 a3 ⊢
    cases o with
    | none =>
      have h3 := a3 rfl
      rw [if_neg (by simp), qbu h3, qco h3]
      exact ⟨rfl, (fun n h => by cases h), fun _ => h3⟩
    | some n =>
      rw [if_pos (by rfl)]
      by_cases hw : (qi d [41]).2 = true
      ·rw [if_pos hw]
       exact ⟨rfl, fun m h => a2 m h, (fun h => by cases h)⟩
      ·rw [if_neg hw]
       have h3 := qdn (by simpa using hw)
       exact ⟨(qco h3).symm, (fun n h => by cases h), fun _ => h3⟩
   ·have he' : (qc c).2 = false := by simpa using he
    have h1 := qg2 he'
    rw [if_neg he]
    rw [qbu h1] at hem ⊢
    simp only at hem ⊢
    rw [hx _ h1, qbu h1, qco h1]
    exact ⟨rfl, (fun n h => by cases h), fun _ => h1⟩
  ·rw [if_neg hk, if_neg (show ¬ begE c = true by simp [begE, hl, hk])]
   exact ⟨rfl, (fun n h => by cases h), fun _ => qgv c⟩
theorem qrm (hp : ∀ c, Mon c (rp c).1) (hm : ∀ c, Mon c (rr c).1) : ∀ (f g : Nat) (c : K) (n : N), NoEnd c → rest c < f → em c < g → em c ≤ b → qd6 (toO (qgd rp f c n)) (qgb rr g c n)
 | 0, _, _, _ => fun _ h _ _ => by omega
 | _, 0, _, _ => fun _ _ h _ => by omega
 | f + 1, g + 1, c, n => fun hn hf hg hb => by
   rw [qgd, qgb]
   by_cases hk : begE c = true
   ·rw [if_pos hk, if_pos hk]
    have ha := qqt hx ih hn hb
    have hl := qmv hm hk
    have hml := qdd hp c
    by_cases hs : (qbl rp c).2.isSome = true
    ·rw [if_pos hs, qiu ha hs, ← ha.1]
     have hlt := qkk hp hs
     rw [← ha.1] at hl
     exact qrm hp hm f g _ _ (hn.mon hml) (by omega) (by omega) (by omega)
    ·rw [if_neg hs]
     have h3 := qiw ha hs
     rw [qlb (by rw [← ha.1]; exact h3)]
     exact qfi ha.1 (fun h => by cases h) (fun _ => h3)
   ·rw [if_neg hk, if_neg hk]
    exact qfi rfl (fun _ => rfl) (fun h => by cases h)
theorem q44 (hp : ∀ c, Mon c (rp c).1) (hm : ∀ c, Mon c (rr c).1) {c : K} (hn : NoEnd c) (hr : em c ≤ b) : qd6 (toO (qhy rp c)) (qn4 rr c) := by
 unfold qhy qn4
 have ha := qqt hx ih hn hr
 have hml := qdd hp c
 have hme := (qe1 hm c).em
 by_cases hs : (qbl rp c).2.isSome = true
 ·rw [if_pos hs, qiu ha hs, ← ha.1]
  rw [← ha.1] at hme
  exact qrm hx ih hp hm _ _ _ _ (hn.mon hml) (Nat.lt_succ_self _) (Nat.lt_succ_self _) (by omega)
 ·rw [if_neg hs]
  have h3 := qiw ha hs
  rw [qlb (by rw [← ha.1]; exact h3)]
  exact qfi ha.1 (fun h => by cases h) (fun _ => h3)
theorem qmm (x : List UInt8) : ∀ (f g : Nat) (c : K), NoEnd c → rest c < f → em c < g → em c < b → qd6 (toO (qck rp x f c)) (qw2 rr x (qdx g c []))
 | 0, _, _ => fun _ h _ _ => by omega
 | _, 0, _ => fun _ _ h _ => by omega
 | f + 1, g + 1, c => fun hn hf hg hb => by
   rw [qck, qdx]
   by_cases hk : (qq c).kind = 1
   ·rw [if_pos hk, if_pos hk, qmr]
    have h1 := qbk (c := c) (by omega)
    have h2 := qkv (c := c) (by omega)
    have ha := qmm x f g (qu c) (hn.mon (qbp c)) (by omega) (by omega) (by omega)
    refine qfi (show (qck rp x f (qu c)).1 = (qw2 rr x (qdx g (qu c) [])).1 from qpu ha) (fun h => ?_) (fun h => q24 (p := qck rp x f (qu c)) ha h)
    simp only
    rw [q3a (p := qck rp x f (qu c)) ha h]
    rfl
   ·rw [if_neg hk, if_neg hk]
    have hw := (qd c x).em
    unfold qw2
    simp only [qz0, List.foldr_nil]
    by_cases hs : (qi c x).2 = true
    ·rw [if_pos hs, qbmg]
     exact ih _ (hn.mon (qd c x)) (by omega)
    ·rw [if_neg hs]
     have h3 := qdn (c := c) (x := x) (by simpa using hs)
     exact qfi (hx _ h3).symm (fun h => by cases h) (fun _ => h3)
theorem qrj {c : K} (hn : NoEnd c) (hr : em c < b) : qd6 (qca rp c) (qdz rr c) := by
 have hk1 := qbf c 1
 have e1 := hk1.em
 unfold qca qdz
 by_cases hk : (qn c 1).2 = true
 ·rw [if_pos hk]
  by_cases ht : (qf (qn c 1).1 [58, 58]).2 = true
  ·rw [if_pos ht, if_pos ht]
   have hem := qgm (qf (qn c 1).1 [58, 58]).1
   have ha := q32 (rest (qf (qn c 1).1 [58, 58]).1 + 2) (qf (qn c 1).1 [58, 58]).1 (hn.mon (hk1.trans (qk _ _))) (by omega)
   refine ⟨ha.1, fun n h => ?_, fun h => ha.2.2 (by simpa using h)⟩
   obtain ⟨q, hq, rfl⟩ := Option.map_eq_some_iff.1 h
   rw [ha.2.1 q hq]
  ·rw [if_neg ht, if_neg ht]
   have ha := qmm hx ih [61] (rest (qn c 1).1 + 1) (em (qn c 1).1 + 1) (qn c 1).1 (hn.mon hk1) (Nat.lt_succ_self _) (Nat.lt_succ_self _) (by omega)
   refine ⟨ha.1, fun n h => ?_, fun h => ha.2.2 (by simpa using h)⟩
   obtain ⟨q, hq, rfl⟩ := Option.map_eq_some_iff.1 h
   exact congrArg _ (ha.2.1 q hq)
 ·rw [if_neg hk]
  have h3 := qne (c := c) (k := 1) (by simpa using hk)
  rw [qe2 h3, if_neg (by simp)]
  unfold qhk qdu qw2
  rw [qqu h3]
  simp only
  rw [qbu h3, hx _ h3]
  exact ⟨rfl, (fun n h => by cases h), fun _ => h3⟩
omit ih in
theorem qx1 {c : K} (h : c.err ≠ 0) : (qdz rr c).1 = c := by
 unfold qdz qhk qdu qw2
 rw [qk0 h, qe2 h, if_neg (by simp), qqu h]
 simp only
 rw [qbu h, hx _ h]
end
theorem qss {rp : K → R3} {rr : K → K × N} {b : Nat} (hp : ∀ c, Mon c (rp c).1) (hm : ∀ c, Mon c (rr c).1) (hl : ∀ c, (rp c).2.2 = true → rest (rp c).1 < rest c) (ih : ∀ c, NoEnd c → em c < b → qd6 (toO (rp c)) (rr c)) :
 ∀ (f g : Nat) (c : K) (acc : List N), NoEnd c → rest c < f → em c < g → em c < b →
   (qcc rp f c acc).1 = (qi (qc1 rr g c acc).1 [125]).1 ∧ ((qcc rp f c acc).2.2 = true → (qcc rp f c acc).2.1 = (qc1 rr g c acc).2) ∧ ((qcc rp f c acc).2.2 = false → (qcc rp f c acc).1.err ≠ 0)
 | 0, _, _, _ => fun _ h _ _ => by omega
 | _, 0, _, _ => fun _ _ h _ => by omega
 | f + 1, g + 1, c, acc => fun hn hf hg hb => by
   rw [qcc, qc1]
   have ha := ih c hn hb
   have e1 := (hm c).em
   have hmo : qb1 (rp c).1 = ((qf (rp c).1 [59]).1, (qf (rp c).1 [59]).2 && !isK (qf (rp c).1 [59]).1 [125]) := rfl
   by_cases hs : (rp c).2.2 = true
   ·rw [if_pos hs, q3a ha hs, ← qpu ha, hmo]
    by_cases ht : ((qf (rp c).1 [59]).2 && !isK (qf (rp c).1 [59]).1 [125]) = true
    ·rw [if_pos ht, if_pos ht]
     have h1 := hl c hs
     have h2 := (qk (rp c).1 [59]).2.1
     have h3 : em (qf (rp c).1 [59]).1 < em (rp c).1 := qjw (c := (rp c).1) ht
     have h4 := (hp c).em
     exact qss hp hm hl ih f g _ _ (hn.mon ((hp c).trans (qk _ _))) (by omega) (by omega) (by omega)
    ·rw [if_neg ht, if_neg ht]
     refine ⟨rfl, fun _ => rfl, fun h => qdn h⟩
   ·rw [if_neg hs]
    have h3 := q24 ha (by simpa using hs)
    rw [← qpu ha]
    unfold qb1
    rw [qe2 h3, Bool.false_and, if_neg (by simp)]
    simp only
    rw [qbu h3]
    exact ⟨rfl, (fun h => by cases h), fun _ => h3⟩
theorem qug {rp : K → R3} {rr : K → K × N} {b : Nat} (hp : ∀ c, Mon c (rp c).1) (hm : ∀ c, Mon c (rr c).1) (hl : ∀ c, (rp c).2.2 = true → rest (rp c).1 < rest c) (hx : ∀ c : K, c.err ≠ 0 → (rr c).1 = c) (ih : ∀ c, NoEnd c → em c < b → qd6 (toO (rp c)) (rr c))
 {c : K} (hn : NoEnd c) (hr : em c < b) : (qbq rp c).1 = (qi (qgz rr (qi c [123]).1).1 [125]).1 ∧ ((qbq rp c).2.2 = true → (qbq rp c).2.1 = (qgz rr (qi c [123]).1).2) ∧ ((qbq rp c).2.2 = false → (qbq rp c).1.err ≠ 0) := by
 unfold qbq qgz
 have e1 := (qd c [123]).em
 by_cases hs : (qi c [123]).2 = true
 ·rw [if_pos hs]
  exact qss hp hm hl ih _ _ _ _ (hn.mon (qd c _)) (Nat.lt_succ_self _) (by omega) (by omega)
 ·rw [if_neg hs]
  have h3 := qdn (c := c) (x := [123]) (by simpa using hs)
  have h4 : (qc1 rr (em (qi c [123]).1 + 2) (qi c [123]).1 []).1 = (qi c [123]).1 := by
   rw [qc1]
   unfold qb1
   rw [hx _ h3, qe2 h3, Bool.false_and, if_neg (by simp)]
  rw [h4, qbu h3]
  exact ⟨rfl, (fun h => by cases h), fun _ => h3⟩
section
variable {rp : K → K × Option N} {rr : K → K × N} {b : Nat} (hx : ∀ c : K, c.err ≠ 0 → (rr c).1 = c) (ih : ∀ c, NoEnd c → em c < b → qd6 (rp c) (rr c)) (hp : ∀ c, Mon c (rp c).1) (hm : ∀ c, Mon c (rr c).1)
include hx ih hp hm
theorem q38 (p : Int) {c : K} (hn : NoEnd c) (hr : em c < b) : qd6 (toO (qi2 rp p c)) (qmh rr p c) := by
 have hl := qug (b := b) (rp := fun c => ofO (qca rp c)) (rr := qdz rr) (fun c => qfv hp c) (qip hm) (fun c h => qkq hp h) (fun c h => qx1 hx h) (fun c h1 h2 => by rw [qbmg]; exact qrj hx ih h1 h2) hn hr
 have hml := qgq (rd := fun c => ofO (qca rp c)) (fun c => qfv hp c) c
 unfold qi2 qmh letB letC q1f
 generalize qbq (fun c => ofO (qca rp c)) c = L at *
 obtain ⟨d, l, ok⟩ := L
 simp only at hl hml ⊢
 rw [← hl.1]
 have e1 := hml.em
 have e2 := (qd d [105, 110]).em
 cases ok with
 | false =>
   have h3 := hl.2.2 rfl
   rw [if_neg (by simp), qbu h3, hx _ h3]
   exact qfi rfl (fun h => by cases h) (fun _ => h3)
 | true =>
   rw [if_pos rfl, hl.2.1 rfl]
   by_cases hw : (qi d [105, 110]).2 = true
   ·rw [if_pos hw]
    have ha := ih (qi d [105, 110]).1 (hn.mon (hml.trans (qd _ _))) (by omega)
    refine qfi ha.1 (fun h => ?_) (fun h => qiw ha (by simpa using h))
    simp only
    rw [qiu ha h]
   ·rw [if_neg hw]
    have h3 := qdn (c := d) (x := [105, 110]) (by simpa using hw)
    exact qfi (hx _ h3).symm (fun h => by cases h) (fun _ => h3)
omit hp hm in
theorem q4t {c : K} (hn : NoEnd c) (hr : em c < b) : qd6 (toO (qfg rp c)) (qgr rr c) := by
 have hpa := q1p (rest c + 2) c (by have := qgm c; omega)
 have hmp := qex (rest c + 2) c
 unfold qfg qgr altB altC qvj
 generalize qcz (rest c + 2) c = q at *
 have e1 := hmp.em
 have e2 := (qd q.1 [45, 62]).em
 rw [← hpa.1]
 by_cases hs : q.2.isSome = true
 ·rw [if_pos hs, qiu hpa hs]
  by_cases hw : (qi q.1 [45, 62]).2 = true
  ·rw [if_pos hw]
   have ha := ih (qi q.1 [45, 62]).1 (hn.mon (hmp.trans (qd _ _))) (by omega)
   refine qfi ha.1 (fun h => ?_) (fun h => qiw ha (by simpa using h))
   simp only
   rw [qiu ha h]
  ·rw [if_neg hw]
   have h3 := qdn (c := q.1) (x := [45, 62]) (by simpa using hw)
   exact qfi (hx _ h3).symm (fun h => by cases h) (fun _ => h3)
 ·rw [if_neg hs]
  have h3 := qiw hpa hs
  rw [qbu h3, hx _ h3]
  exact qfi rfl (fun h => by cases h) (fun _ => h3)
omit ih hp hm in
theorem qsn {c : K} (h : c.err ≠ 0) : (qgr rr c).1 = c := by
 unfold qgr qvj
 rw [qzc _ h]
 simp only
 rw [qbu h, hx _ h]
theorem q0t (p : Int) {c : K} (hn : NoEnd c) (hr : em c < b) : qd6 (toO (qgj rp p c)) (qj2 rr p c) := by
 have hc := ih c hn hr
 have hmc := hp c
 unfold qgj qj2 q42 q5v qv1
 generalize rp c = q at *
 have e1 := hmc.em
 have e2 := (qd q.1 [111, 102]).em
 rw [← hc.1]
 have herr : ∀ d : K, d.err ≠ 0 → (qi (qgz (qgr rr) (qi (qi d [111, 102]).1 [123]).1).1 [125]).1 = d := fun d h3 => by
  have h4 : (qgz (qgr rr) d).1 = d := by
   unfold qgz
   rw [qc1]
   unfold qb1
   rw [qsn hx h3, qe2 h3, Bool.false_and, if_neg (by simp)]
  rw [qbu h3, qbu h3, h4, qbu h3]
 by_cases hs : q.2.isSome = true
 ·rw [if_pos hs, qiu hc hs]
  by_cases hw : (qi q.1 [111, 102]).2 = true
  ·rw [if_pos hw]
   have hl := qug (b := b) (rp := qfg rp) (rr := qgr rr) (fun c => qlu hp c) (qms hm) (fun c h => qr2 hp h) (fun c h => qsn hx h) (fun c h1 h2 => q4t hx ih h1 h2) (hn.mon (hmc.trans (qd q.1 [111, 102]))) (by omega)
   exact qfi hl.1 (fun h => by simp only; rw [hl.2.1 h]) (fun h => hl.2.2 h)
  ·rw [if_neg hw]
   have h3 := qdn (c := q.1) (x := [111, 102]) (by simpa using hw)
   refine qfi ?_ (fun h => by cases h) (fun _ => h3)
   have := herr _ h3
   rw [qbu h3] at this
   exact this.symm
 ·rw [if_neg hs]
  have h3 := qiw hc hs
  exact qfi (herr _ h3).symm (fun h => by cases h) (fun _ => h3)
omit hm in
theorem q5j (p : Int) {c : K} (hn : NoEnd c) (hr : em c < b) : qd6 (toO (qeq rp p ifsW c [])) (qmo rr p c) := by
 have h1 := ih c hn hr
 have m1 := hp c
 unfold ifsW qmo qbbf
 rw [qeq, show ifsK c [] = (c, true) from rfl, if_pos rfl]
 simp only
 generalize rp c = q1 at *
 have e1 := m1.em
 have e2 := (qd q1.1 [116, 104, 101, 110]).em
 rw [← h1.1]
 have herr2 : ∀ (d : K) (a bb : K × N), d.err ≠ 0 → bb.1 = d → (qtq rr p a bb).1 = d := fun d a bb h3 hb => by
  unfold qtq q2a
  simp only
  rw [hb, qbu h3, hx _ h3]
 have herr1 : ∀ (d : K) (a : K × N), d.err ≠ 0 → (qtq rr p a (rr (qi d [116, 104, 101, 110]).1)).1 = d := fun d a h3 => herr2 d a _ h3 (by rw [qbu h3, hx _ h3])
 by_cases s1 : q1.2.isSome = true
 ·rw [if_pos s1, qiu h1 s1]
  rw [qeq, show ifsK q1.1 [116, 104, 101, 110] = qi q1.1 [116, 104, 101, 110] from if_neg (by simp)]
  by_cases w2 : (qi q1.1 [116, 104, 101, 110]).2 = true
  ·rw [if_pos w2]
   have h2 := ih (qi q1.1 [116, 104, 101, 110]).1 (hn.mon (m1.trans (qd _ _))) (by omega)
   have m2 := hp (qi q1.1 [116, 104, 101, 110]).1
   generalize rp (qi q1.1 [116, 104, 101, 110]).1 = q2 at *
   have e3 := m2.em
   have e4 := (qd q2.1 [101, 108, 115, 101]).em
   by_cases s2 : q2.2.isSome = true
   ·rw [if_pos s2, qiu h2 s2]
    rw [qeq, show ifsK q2.1 [101, 108, 115, 101] = qi q2.1 [101, 108, 115, 101] from if_neg (by simp)]
    unfold qtq q2a
    rw [← h2.1]
    by_cases w3 : (qi q2.1 [101, 108, 115, 101]).2 = true
    ·rw [if_pos w3]
     have h4 := ih (qi q2.1 [101, 108, 115, 101]).1 (hn.mon (((m1.trans (qd _ _)).trans m2).trans (qd _ _))) (by omega)
     generalize rp (qi q2.1 [101, 108, 115, 101]).1 = q3 at *
     by_cases s3 : q3.2.isSome = true
     ·rw [if_pos s3, qiu h4 s3, qeq]
      exact qfi h4.1 (fun _ => rfl) (fun h => by cases h)
     ·rw [if_neg s3]
      exact qfi h4.1 (fun h => by cases h) (fun _ => qiw h4 s3)
    ·rw [if_neg w3]
     have h3 := qdn (c := q2.1) (x := [101, 108, 115, 101]) (by simpa using w3)
     exact qfi (hx _ h3).symm (fun h => by cases h) (fun _ => h3)
   ·rw [if_neg s2]
    have h3 := qiw h2 s2
    exact qfi (herr2 _ _ _ h3 h2.1.symm).symm (fun h => by cases h) (fun _ => h3)
  ·rw [if_neg w2]
   have h3 := qdn (c := q1.1) (x := [116, 104, 101, 110]) (by simpa using w2)
   exact qfi (herr2 _ _ _ h3 (hx _ h3)).symm (fun h => by cases h) (fun _ => h3)
 ·rw [if_neg s1]
  have h3 := qiw h1 s1
  exact qfi (herr1 _ _ h3).symm (fun h => by cases h) (fun _ => h3)
theorem q0n {c : K} (hn : NoEnd c) (hr : em c ≤ b) : qd6 (toO (qew rp c)) (qfp rr c) := by
 unfold qew qfp
 by_cases t1 : (qf c [92]).2 = true
 ·rw [if_pos t1, if_pos t1]
  have e1 := qdw t1
  unfold qmn
  by_cases hk : (qq (qf c [92]).1).kind = 1
  ·rw [if_pos hk, if_pos hk]
   exact qmm hx ih _ _ _ _ (hn.mon (qk _ _)) (Nat.lt_succ_self _) (Nat.lt_succ_self _) (by omega)
  ·rw [if_neg hk, if_neg hk]
   exact qfi rfl (fun h => by cases h) (fun _ => qgv _)
 ·rw [if_neg t1, if_neg t1]
  by_cases t2 : (qf c [108, 101, 116]).2 = true
  ·rw [if_pos t2, if_pos t2]
   have e1 := qdw t2
   exact q38 hx ih hp hm _ (hn.mon (qk _ _)) (by omega)
  ·rw [if_neg t2, if_neg t2]
   by_cases t3 : (qf c [99, 97, 115, 101]).2 = true
   ·rw [if_pos t3, if_pos t3]
    have e1 := qdw t3
    exact q0t hx ih hp hm _ (hn.mon (qk _ _)) (by omega)
   ·rw [if_neg t3, if_neg t3]
    by_cases t4 : (qf c [105, 102]).2 = true
    ·rw [if_pos t4, if_pos t4]
     have e1 := qdw t4
     exact q5j hx ih hp _ (hn.mon (qk _ _)) (by omega)
    ·rw [if_neg t4, if_neg t4]
     exact q44 hx ih hp hm hn hr
end
theorem qo4 {rr : K → K × N} {c : K} (h : c.err ≠ 0) : (qfp rr c).1 = c := by
 unfold qfp
 rw [qe2 h, qe2 h, qe2 h, qe2 h]
 simp only [Bool.false_eq_true, if_false]
 unfold qn4
 rw [qzo h, qlb h]
theorem qtn (f : Nat) {c : K} (h : c.err ≠ 0) : (qg9 f c).1 = c := by
 cases f with
 | zero => rfl
 | succ f =>
   rw [qg9, qi9 h]
   simp only
   rw [qo4 h, qco h]
theorem qx4 : ∀ (f : Nat) (c : K), NoEnd c → em c < f → qd6 (qix f c) (qg9 f c)
 | 0, _ => fun _ h => by omega
 | f + 1, c => fun hn hf => by
   have hx : ∀ c : K, c.err ≠ 0 → (qg9 f c).1 = c := fun c h => qtn f h
   have e1 := (qm c).em
   rw [qix, qg9]
   by_cases he : (qc c).2 = true
   ·rw [if_pos he]
    have ha := q0n hx (qx4 f) (qi5 f) (qlr f) (c := (qc c).1) (hn.mon (qm c)) (by omega)
    refine ⟨?_, ha.2.1, fun h => ?_⟩
    ·simp only
     rw [← qpu ha]
    ·have h3 : (qew (qix f) (qc c).1).1.err ≠ 0 := ha.2.2 h
     simp only
     rw [qco h3]
     exact h3
   ·rw [if_neg he]
    have h3 := qg2 (c := c) (by simpa using he)
    refine ⟨?_, (fun n h => by cases h), fun _ => h3⟩
    simp only
    rw [qo4 h3, qco h3]
end Go.Proofs.YtfjbmjplnmaclaaGreat
