/- Texts of this proof, joined. -/
import Derived.Test.YtfjbmjplnmaclaaGreatQbd
import Derived.Test.YtfjbmjplnmaclaaGreatQbg

/- expressions: the reference: what it reads -/
set_option maxRecDepth 4000
namespace Go.Proofs.YtfjbmjplnmaclaaGreat
open Go Go.RowKit Go.V
set_option linter.unusedVariables false
set_option linter.unusedSimpArgs false

theorem qbdr {c : K} (h : begE c = true) : c.err = 0 := (qe5 (qxw h)).1
theorem qvq {c : K} (h : c.err ≠ 0) : begE c = false := by
 cases hb : begE c with
 | false => rfl
 | true => exact absurd (qbdr hb) h
def qdo (rec : K → K × N) (c : K) : K × N :=
 if begE c = true then
  if isK c [40] = true then (qcj (qi (rec (qi (qc c).1 [40]).1).1 [41]).1, (rec (qi (qc c).1 [40]).1).2)
  else (qu c, (qkj c).getD N0)
 else (qdh c 5, N0)
def qf5 (rec : K → K × N) : Nat → K → N → K × N
 | 0, c, n => (c, n)
 | f + 1, c, n => if begE c = true then qf5 rec f (qdo rec c).1 (appN n (qdo rec c).2) else (c, n)
def qn5 (rec : K → K × N) (c : K) : K × N := qf5 rec (em (qdo rec c).1 + 1) (qdo rec c).1 (qdo rec c).2
def q0x (l : List T) (n : N) : N := l.foldr lamN n
def qdw : Nat → K → List T → K × List T
 | 0, c, acc => (c, acc)
 | f + 1, c, acc => if (qq c).kind = 1 then qdw f (qu c) (acc ++ [qq c]) else (c, acc)
def qdv (c : K) : K × List T := qdw (em c + 1) c []
def qx7 (rec : K → K × N) (x : List UInt8) (v : K × List T) : K × N := ((rec (qi v.1 x).1).1, q0x v.2 (rec (qi v.1 x).1).2)
def qhn (rec : K → K × N) (x : List UInt8) (c : K) : K × N := qx7 rec x (qdv c)
def qmu (rec : K → K × N) (c : K) : K × N := if (qq c).kind = 1 then qhn rec [45, 62] c else (qdh c 5, N0)
def qdz (rec : K → K × N) (c : K) : K × N :=
 if (qf (qn c 1).1 [58, 58]).2 = true then
  ((qld (rest (qf (qn c 1).1 [58, 58]).1 + 2) (qf (qn c 1).1 [58, 58]).1).1, qpp 32 (qev c 1) (qld (rest (qf (qn c 1).1 [58, 58]).1 + 2) (qf (qn c 1).1 [58, 58]).1).2)
 else ((qhn rec [61] (qn c 1).1).1, qpp 31 (qev c 1) (qhn rec [61] (qn c 1).1).2)
def qb1 (c : K) : K × Bool := ((qf c [59]).1, (qf c [59]).2 && !isK (qf c [59]).1 [125])
def qcx (rd : K → K × N) : Nat → K → List N → K × List N
 | 0, c, acc => (c, acc)
 | f + 1, c, acc => if (qb1 (rd c).1).2 = true then qcx rd f (qb1 (rd c).1).1 (acc ++ [(rd c).2]) else ((qb1 (rd c).1).1, acc ++ [(rd c).2])
def qg0 (rd : K → K × N) (c : K) : K × List N := qcx rd (em c + 2) c []
def qz7 (rec : K → K × N) (p : Int) (L : K × List N) : K × N :=
 ((rec (qi (qi L.1 [125]).1 [105, 110]).1).1, .mk 26 p 0 [] (L.2 ++ [(rec (qi (qi L.1 [125]).1 [105, 110]).1).2]))
def qms (rec : K → K × N) (p : Int) (c : K) : K × N := qz7 rec p (qg0 (qdz rec) (qi c [123]).1)
def qwo (rec : K → K × N) (p : K × N) : K × N := ((rec (qi p.1 [45, 62]).1).1, altN p.2 (rec (qi p.1 [45, 62]).1).2)
def qgs (rec : K → K × N) (c : K) : K × N := qwo rec (qen (rest c + 2) c)
def qv3 (p : Int) (x : N) (L : K × List N) : K × N := ((qi L.1 [125]).1, .mk 27 p 0 [] (x :: L.2))
def qjy (rec : K → K × N) (p : Int) (c : K) : K × N := qv3 p (rec c).2 (qg0 (qgs rec) (qi (qi (rec c).1 [111, 102]).1 [123]).1)
def q2w (p : Int) (a b d : K × N) : K × N := (d.1, .mk 28 p 0 [] [a.2, b.2, d.2])
def qub (rec : K → K × N) (p : Int) (a b : K × N) : K × N := q2w p a b (rec (qi b.1 [101, 108, 115, 101]).1)
def q80 (rec : K → K × N) (p : Int) (a : K × N) : K × N := qub rec p a (rec (qi a.1 [116, 104, 101, 110]).1)
def qmg (rec : K → K × N) (p : Int) (c : K) : K × N := q80 rec p (rec c)
def qfp (rec : K → K × N) (c : K) : K × N :=
 if (qf c [92]).2 = true then qmu rec (qf c [92]).1
 else if (qf c [108, 101, 116]).2 = true then qms rec (qq c).pos (qf c [108, 101, 116]).1
 else if (qf c [99, 97, 115, 101]).2 = true then qjy rec (qq c).pos (qf c [99, 97, 115, 101]).1
 else if (qf c [105, 102]).2 = true then qmg rec (qq c).pos (qf c [105, 102]).1
 else qn5 rec c
def qhb : Nat → K → K × N
 | 0, c => (c, N0)
 | f + 1, c => (qcj (qfp (qhb f) (qc c).1).1, (qfp (qhb f) (qc c).1).2)

theorem qmp : ∀ (f : Nat) (c : K) (acc : List T), Mon c (qdw f c acc).1
 | 0, c, acc => Mon.refl c
 | f + 1, c, acc => by
   rw [qdw]
   split
   ·exact (qbo c).trans (qmp f _ _)
   ·exact Mon.refl c
theorem qfo (c : K) : Mon c (qb1 c).1 := qk c _
section
variable {rec : K → K × N} (hm : ∀ c, Mon c (rec c).1)
include hm
theorem qex (c : K) : Mon c (qdo rec c).1 := by
 unfold qdo
 split
 ·split
  ·exact ((qm c).trans (qd _ _)).trans (qpv hm c)
  ·exact qbo c
 ·exact qeg c 5
theorem qne {c : K} (h : begE c = true) : em (qdo rec c).1 < em c := by
 unfold qdo
 rw [if_pos h]
 split
 ·have h1 := qfn (c := c) (by assumption)
  have h2 := (qpv hm c).em
  simp only; omega
 ·exact qku (qxw h)
theorem qow : ∀ (f : Nat) (c : K) (n : N), Mon c (qf5 rec f c n).1
 | 0, c, n => Mon.refl c
 | f + 1, c, n => by
   rw [qf5]
   split
   ·exact (qex hm c).trans (qow f _ _)
   ·exact Mon.refl c
theorem q0g (c : K) : Mon c (qn5 rec c).1 := (qex hm c).trans (qow hm _ _ _)
theorem qpe (x : List UInt8) (c : K) : Mon c (qhn rec x c).1 := ((qmp _ _ _).trans (qd _ x)).trans (hm _)
theorem q1g (c : K) : Mon c (qmu rec c).1 := by
 unfold qmu
 split
 ·exact qpe hm _ c
 ·exact qeg c 5
theorem qih (c : K) : Mon c (qdz rec c).1 := by
 unfold qdz
 split
 ·exact ((qbf c 1).trans (qk _ _)).trans ((qg7 (qcl _) _).trans (qcl _ _))
 ·exact (qbf c 1).trans (qpe hm _ _)
omit hm in
theorem qf4 {rd : K → K × N} (hd : ∀ c, Mon c (rd c).1) : ∀ (f : Nat) (c : K) (acc : List N), Mon c (qcx rd f c acc).1
 | 0, c, acc => Mon.refl c
 | f + 1, c, acc => by
   rw [qcx]
   split
   ·exact ((hd c).trans (qfo _)).trans (qf4 hd f _ _)
   ·exact (hd c).trans (qfo _)
theorem q02 (p : Int) (c : K) : Mon c (qms rec p c).1 := ((((qd c _).trans (qf4 (qih hm) _ _ _)).trans (qd _ _)).trans (qd _ _)).trans (hm _)
theorem qmk (c : K) : Mon c (qgs rec c).1 := ((qhy _ c).trans (qd _ _)).trans (hm _)
theorem qy1 (p : Int) (c : K) : Mon c (qjy rec p c).1 := ((((hm c).trans (qd _ _)).trans (qd _ _)).trans (qf4 (qmk hm) _ _ _)).trans (qd _ _)
theorem q0d (p : Int) (c : K) : Mon c (qmg rec p c).1 := ((((hm c).trans (qd _ _)).trans (hm _)).trans (qd _ _)).trans (hm _)
theorem qoy (c : K) : Mon c (qfp rec c).1 := by
 unfold qfp
 split
 ·exact (qk c _).trans (q1g hm _)
 ·split
  ·exact (qk c _).trans (q02 hm _ _)
  ·split
   ·exact (qk c _).trans (qy1 hm _ _)
   ·split
    ·exact (qk c _).trans (q0d hm _ _)
    ·exact q0g hm c
end
theorem qlp : ∀ (f : Nat) (c : K), Mon c (qhb f c).1
 | 0, c => Mon.refl c
 | f + 1, c => ((qm c).trans (qoy (qlp f) _)).trans (qbv _)

/-! The program. -/
def zEC : Ent := .blk [.nils, .int .i64 0, .int .i64 0, .int .i64 0, .str [], .int .i64 0, .int .i64 0, .int .i64 0]
def zEN : Ent := .blk [.int .i64 0, .int .i64 0, .int .i64 0, .str [], .nils]
theorem qfx (c : K) : qz Tryz.prog 146 [refC c] (.bool (begE c)) := by
 refine qj c0ft (by simp) (by simp only [go_sem]) rfl fun hw => ?_
 repeat' (first | refine vs_ ?_ | ((first | refine vr_ ?_ | refine qa (ql c) fun _ => ?_ | refine qa (qcw c _) fun _ => ?_ | (refine cs_ ?_ ?_ <;> intro hc) | refine cj_ ?_ | fail) <;> (try refine ev_ ?_)) | with_reducible exact ti_)
 all_goals (have := @qvq c; unfold begE qkj at *; simp_all)
theorem qfy (c : K) : qz Tryz.prog 155 [refC c] (.tup [refC (qb1 c).1, .bool (qb1 c).2]) := by
 refine qj c0fu (by simp) (by simp only [go_sem]) (by simp only [go_sem]) fun hw => ?_
 repeat' (first | refine vs_ ?_ | ((first | refine vr_ ?_ | refine qa (qv c _) fun _ => ?_ | refine qa (qcw _ _) fun _ => ?_ | refine qb (qv c _) ?_ | refine qb (qcw _ _) ?_ | (refine cs_ ?_ ?_ <;> intro hc) | refine cj_ ?_ | fail) <;> (try refine ev_ ?_)) | with_reducible exact ti_)
 all_goals (unfold qb1; simp_all [go_sem])
def qxp (x : Nat × K × List T) : AF × List Ent :=
 (⟨[(1, .ptr 0 0), (2, .ptr 1 0), (4, accV 2 (qcv x.2.2))], []⟩, .blk (refC x.2.1).cells :: zEC :: accE 4 (qcv x.2.2))
theorem qth (c : K) (hg : c.good) : qz Tryz.prog 87 [refC c] (.tup [refC (qdv c).1, .sl 4 (qcv (qdv c).2)]) := by
 refine qj c0fv (by simp) (by simp only [go_sem]) (by simp only [go_sem]) fun hw => ?_
 unfold qdv
 generalize htg : qdw (em c + 1) c [] = tg
 repeat' (first | refine vs_ ?_ | ((first | refine vr_ ?_ | (refine cs_ ?_ ?_ <;> intro hc) | refine cj_ ?_ | fail) <;> (try refine ev_ ?_)) | with_reducible exact ti_)
 refine qbm (S := Nat × K × List T) (fun x => x.2.1.good ∧ qdw x.1 x.2.1 x.2.2 = tg ∧ em x.2.1 < x.1 ∧ x.2.2.length + em x.2.1 ≤ 1048578) qxp (fun x => em x.2.1) ?_ ?_
 ·refine q8 (em c + 1, c, []) [0, 1] ⟨hg, htg, Nat.lt_succ_self _, ?_⟩ rfl (by simp) ?_ ?_ ?_
  ·have h9 := hg.rest
   have h8 := qgo c
   unfold rest at h8
   simp only [List.length_nil]; omega
  all_goals simp only [qxp, zEC, qib, qr, qt]
  all_goals (refine ev_ ?_; (try with_reducible exact ti_))
 ·rintro ⟨fu, d, acc⟩ ⟨i1, i2, i3, i4⟩
  simp only at i1 i2 i3 i4
  unfold qxp zEC
  obtain ⟨fu, rfl⟩ : ∃ k, fu = k + 1 := ⟨fu - 1, by omega⟩
  rw [qdw] at i2
  have hcap : qdq (acc.length + 1) 40 := capT (by omega)
  have g1 : (qu d).good := (qbo d).1 i1
  have hke : d.err ≠ 0 → (qq d).kind ≠ 1 := fun h => by rw [qgd h]; decide
  by_cases hk : (qq d).kind = 1
  ·have he : (d.err = 0) = True := eq_true (Classical.byContradiction fun h => hke h hk)
   have hkT : ((qq d).kind = 1) = True := eq_true hk
   rw [if_pos hk] at i2
   have hlt := qku (c := d) (by omega)
   by_cases h0 : acc = []
   ·subst h0
    simp only [qib, qr, qt]
    repeat' (first | refine vs_ ?_ | ((first | refine vr_ ?_ | fail) <;> (try simp only [hkT, he, decide_true, go_sem, ↓reduceIte])) | ((first | (refine cs_ ?_ ?_ <;> intro hc) | refine cj_ ?_ | fail | refine qa (ql d) fun _ => ?_ | refine qa (qc3 d) fun _ => ?_) <;> (try refine ev_ ?_)) | with_reducible exact ti_)
    refine q8 (fu, qu d, [] ++ [qq d]) [0, 1, 4] ⟨⟨g1, i2, by simp only; omega, by simp only [List.length_append, List.length_cons, List.length_nil]; omega⟩, by simp only; omega⟩ rfl (by simp) ?_ ?_ ?_
    all_goals simp only [qxp, zEC, show qcv [qq d] = [encT (qq d)] from rfl, ← qga, qbs, qbr, List.nil_append, qib, qby, qbx, qgb]
    all_goals (refine ev_ ?_; (try with_reducible exact ti_))
    all_goals (try (rw [qga, qio, qk1]; exact ⟨rfl, rfl⟩))
   ·have hne := qnp h0
    simp only [qbd hne, qbc hne, qgb]
    repeat' (first | refine vs_ ?_ | ((first | refine vr_ ?_ | fail) <;> (try simp only [hkT, he, decide_true, go_sem, ↓reduceIte])) | ((first | (refine cs_ ?_ ?_ <;> intro hc) | refine cj_ ?_ | fail | refine qa (ql d) fun _ => ?_ | refine qa (qc3 d) fun _ => ?_) <;> (try refine ev_ ?_)) | with_reducible exact ti_)
    refine q8 (fu, qu d, acc ++ [qq d]) [0, 1, 5] ⟨⟨g1, i2, by simp only; omega, by simp only [List.length_append, List.length_cons, List.length_nil]; omega⟩, by simp only; omega⟩ rfl (by simp) ?_ ?_ ?_
    all_goals simp only [qxp, zEC, show qcv [qq d] = [encT (qq d)] from rfl, ← qga, qbs, qbr, List.nil_append, qib, qby, qbx, qgb]
    all_goals (refine ev_ ?_; (try with_reducible exact ti_))
    all_goals (try (rw [qga, qio, qk1]; exact ⟨rfl, rfl⟩))
  ·rw [if_neg hk] at i2
   subst i2
   by_cases h0 : acc = []
   ·subst h0
    simp only [qib, qr, qt]
    repeat' (first | refine vs_ ?_ | ((first | refine vr_ ?_ | fail) <;> (try simp only [hk, decide_true, go_sem, ↓reduceIte])) | ((first | (refine cs_ ?_ ?_ <;> intro hc) | refine cj_ ?_ | fail | refine qa (ql d) fun _ => ?_) <;> (try refine ev_ ?_)) | with_reducible exact ti_)
    all_goals (try rfl)
   ·have hne := qnp h0
    simp only [qbd hne, qbc hne, qgb]
    repeat' (first | refine vs_ ?_ | ((first | refine vr_ ?_ | fail) <;> (try simp only [hk, decide_true, go_sem, ↓reduceIte])) | ((first | (refine cs_ ?_ ?_ <;> intro hc) | refine cj_ ?_ | fail | refine qa (ql d) fun _ => ?_) <;> (try refine ev_ ?_)) | with_reducible exact ti_)
    all_goals (try rfl)
set_option maxRecDepth 4000

theorem q5d {l : List T} {j : Nat} (n : N) (h : j < l.length) : q0x (l.drop j) n = lamN (l.getD j T0) (q0x (l.drop (j + 1)) n) := by
 rw [qbcn h]; rfl
theorem q7c {P : Program} {fr : Option Nat} {k m : Nat} {a : IC} {Q : VE → AF → List Ent → Prop} {af : AF} {L : List Ent} {fl : Bool} {n : N} (h : VI P fr k m a Q af (.blk (enc n).cells :: L)) : VI P fr k m a Q af (qn3 fl n :: L) := by
 cases n
 cases fl with
 | false => exact h
 | true =>
   refine qvn 0 4 (.sl 5) (by rfl) ?_
   simp only [List.getD_cons_succ, List.getD_cons_zero, if_true, qng, List.set_cons_succ, List.set_cons_zero]
   exact h
def q3l (l : List T) (n : N) (x : Bool × Nat) : AF × List Ent :=
 (⟨[(0, .sl 4 (qcv l)), (3, .ptr 0 0), (4, .ptr 1 0), (5, .int .i64 ((x.2 : Int) - 1))], []⟩, [qn3 x.1 (q0x (l.drop x.2) n), zEN])
theorem qtc (l : List T) (n : N) (hl : l.length ≤ 1048600) : qz Tryz.prog 89 [.sl 4 (qcv l), enc n] (enc (q0x l n)) := by
 refine qj c0fp (by simp) (by simp only [go_sem]) (by simp only [go_sem]) fun hw => ?_
 repeat' (first | refine vs_ ?_ | ((first | refine vr_ ?_ | simp (disch := omega) only [qbcx] | (refine cs_ ?_ ?_ <;> intro hc) | refine cj_ ?_ | simp (disch := omega) only [qh, qs]) <;> (try refine ev_ ?_)) | with_reducible exact ti_)
 refine qbm (S := Bool × Nat) (fun x => x.2 ≤ l.length) (q3l l n) (fun x => x.2) ?_ ?_
 ·refine q8 (false, l.length) [0, 1] (Nat.le_refl _) rfl (by simp) ?_ ?_ ?_
  all_goals simp only [q3l, qn3, zEN, List.drop_length, q0x, List.foldr_nil]
  all_goals (refine ev_ ?_; (try with_reducible exact ti_))
 ·rintro ⟨fl, j⟩ i1
  simp only at i1
  unfold q3l
  refine q7c ?_
  unfold zEN
  cases j with
  | zero =>
    have h0 : ¬ (0 : Int) ≤ 0 - 1 := by omega
    repeat' (first | refine vs_ ?_ | ((first | refine vr_ ?_ | fail) <;> (try simp only [h0, go_sem, ↓reduceIte])) | ((first | (refine cs_ ?_ ?_ <;> intro hc) | refine cj_ ?_ | simp (disch := omega) only [qh, qs]) <;> (try refine ev_ ?_)) | with_reducible exact ti_)
    all_goals (try rfl)
  | succ j =>
    have h0 : (0 : Int) ≤ ((j + 1 : Nat) : Int) - 1 := by omega
    have h1 : (((j + 1 : Nat) : Int) - 1).toNat = j := by omega
    have h2 : ((j + 1 : Nat) : Int) - 1 - 1 = (j : Int) - 1 := by omega
    repeat' (first | refine vs_ ?_ | ((first | refine vr_ ?_ | fail) <;> (try simp only [h0, h1, h2, go_sem, ↓reduceIte])) | ((first | simp (disch := omega) only [qd5] | simp (disch := omega) only [qbcx] | (refine cs_ ?_ ?_ <;> intro hc) | refine cj_ ?_ | simp (disch := omega) only [qh, qs]) <;> (try refine ev_ ?_)) | with_reducible exact ti_)
    all_goals (
     refine q8 (true, j) [0, 1] ⟨by simp only; omega, by simp only; omega⟩ rfl (by simp) ?_ ?_ ?_
     all_goals simp only [q3l, qn3, zEN, q5d n (show j < l.length by omega), lamN, encs, N.kind, N.pos, N.num, N.text, N.kids]
     all_goals (refine ev_ ?_; (try with_reducible exact ti_))
     all_goals (try rfl))
section
variable {rec : K → K × N} {b : Nat} (hm : ∀ c, Mon c (rec c).1) (ih : ∀ c, c.good → em c < b → qz Tryz.prog 88 [refC c] (.tup [refC (rec c).1, enc (rec c).2]))
include hm ih
theorem qt9 (c : K) (hg : c.good) (hr : em c ≤ b) : qz Tryz.prog 145 [refC c] (.tup [refC (qdo rec c).1, enc (qdo rec c).2]) := by
 have g1 : (qi (qc c).1 [40]).1.good := ((qm c).trans (qd _ _)).1 hg
 have g2 : (qi (rec (qi (qc c).1 [40]).1).1 [41]).1.good := ((hm _).trans (qd _ _)).1 g1
 refine qj c0fq (by simp) (by simp only [go_sem]) (by simp only [go_sem]) fun hw => ?_
 repeat' (first | refine vs_ ?_ | ((first | refine vr_ ?_ | refine qa (ql c) fun _ => ?_ | refine qa (qcw c _) fun _ => ?_ | refine qa (qfx c) fun _ => ?_ | refine qa (qcr c _) fun _ => ?_ | refine qa (qcp c) fun _ => ?_ | refine qa (qba _ _) fun _ => ?_ | refine qa (ih _ g1 (Nat.lt_of_lt_of_le (qfn (by assumption)) hr)) fun _ => ?_ | refine qa (qb4 _ g2.2.2) fun _ => ?_ | refine qa (qc3 c) fun _ => ?_ | refine qb (ql c) ?_ | refine qb (qcw c _) ?_ | refine qb (qfx c) ?_ | refine qb (qcr c _) ?_ | refine qb (qcp c) ?_ | refine qb (qba _ _) ?_ | refine qb (ih _ g1 (Nat.lt_of_lt_of_le (qfn (by assumption)) hr)) ?_ | refine qb (qb4 _ g2.2.2) ?_ | refine qb (qc3 c) ?_ | (refine cs_ ?_ ?_ <;> intro hc) | refine cj_ ?_ | fail) <;> (try refine ev_ ?_)) | with_reducible exact ti_)
 all_goals (unfold qdo; simp only [*, qdt, Int.reduceEq, if_true, if_false, reduceIte, Bool.false_eq_true, Option.getD_none, Option.getD_some, Option.isSome_none, Option.isSome_some, and_self, true_and, and_true]; try rfl)
 all_goals
  have hb : begE c = true := by assumption
  have hk : isK c [40] = false := by assumption
  simp only [begE, hk, Bool.or_false] at hb
  unfold qkj qie at hb ⊢
  clear ih
  simp_all [enc, encs]
omit hm in
theorem qt2 (x : List UInt8) (c : K) (hg : c.good) (hr : em c < b) : qz Tryz.prog 88 [refC (qi (qdv c).1 x).1] (.tup [refC (qhn rec x c).1, enc (rec (qi (qdv c).1 x).1).2]) := by
 have hv := qmp (em c + 1) c []
 have h1 := (hv.trans (qd _ x)).em
 exact ih _ ((hv.trans (qd _ x)).1 hg) (by unfold qdv; omega)
omit hm ih in
theorem qo1 (c : K) (hg : c.good) : (qdv c).2.length ≤ 1048600 := by
 have key : ∀ (f : Nat) (c : K) (acc : List T), (qdw f c acc).2.length ≤ acc.length + em c := by
  intro f
  induction f with
  | zero => intro c acc; simp [qdw]
  | succ f ih =>
    intro c acc
    rw [qdw]
    split
    ·have h1 := ih (qu c) (acc ++ [qq c])
     have h2 := qku (c := c) (by omega)
     simp only [List.length_append, List.length_cons, List.length_nil] at h1
     omega
    ·simp
 have h1 := key (em c + 1) c []
 have h2 := qgo c
 have h3 := hg.rest
 unfold rest at h2
 simp only [List.length_nil] at h1
 unfold qdv
 omega
omit hm in
theorem q9b (c : K) (hg : c.good) (hr : em c < b) : qz Tryz.prog 141 [refC c] (.tup [refC (qmu rec c).1, enc (qmu rec c).2]) := by
 refine qj c0fr (by simp) (by simp only [go_sem]) (by simp only [go_sem]) fun hw => ?_
 unfold qmu
 by_cases hk : (qq c).kind = 1
 ·rw [if_pos hk]
  have hl := qt2 ih [45, 62] c hg hr
  have hwp := qtc (qdv c).2 (rec (qi (qdv c).1 [45, 62]).1).2 (qo1 c hg)
  unfold qhn qx7 at hl ⊢
  have hvv := qth c hg
  generalize qdv c = v at *
  repeat' (first | refine vs_ ?_ | ((first | refine vr_ ?_ | fail) <;> (try simp only [hk, ne_eq, not_true_eq_false, decide_false, go_sem, ↓reduceIte])) | ((first | (refine cs_ ?_ ?_ <;> intro hc) | refine cj_ ?_ | fail | refine qa (ql c) fun _ => ?_ | refine qa hvv fun _ => ?_ | refine qa (qba v.1 _) fun _ => ?_ | refine qa hl fun _ => ?_ | refine qa hwp fun _ => ?_ | refine qb (ql c) ?_ | refine qb hvv ?_ | refine qb (qba v.1 _) ?_ | refine qb hl ?_ | refine qb hwp ?_) <;> (try refine ev_ ?_)) | with_reducible exact ti_)
 ·rw [if_neg hk]
  repeat' (first | refine vs_ ?_ | ((first | refine vr_ ?_ | fail) <;> (try simp only [hk, ne_eq, not_false_eq_true, decide_true, go_sem, ↓reduceIte])) | ((first | (refine cs_ ?_ ?_ <;> intro hc) | refine cj_ ?_ | fail | refine qa (ql c) fun _ => ?_ | refine qa (qcr c _) fun _ => ?_ | refine qb (ql c) ?_ | refine qb (qcr c _) ?_) <;> (try refine ev_ ?_)) | with_reducible exact ti_)
  all_goals first | (rw [qdt]; done) | (rw [qdt]; rfl)
omit hm in
theorem qtu (c : K) (hg : c.good) (hr : em c < b) : qz Tryz.prog 45 [refC c] (.tup [refC (qdz rec c).1, enc (qdz rec c).2]) := by
 have g1 : (qn c 1).1.good := (qbf c 1).1 hg
 have g2 : (qf (qn c 1).1 [58, 58]).1.good := (qk _ _).1 g1
 have e1 := (qbf c 1).em
 have e2 := qgo (qf (qn c 1).1 [58, 58]).1
 refine qj c0fs (by simp) (by simp only [go_sem]) (by simp only [go_sem]) fun hw => ?_
 unfold qdz
 by_cases ht : (qf (qn c 1).1 [58, 58]).2 = true
 ·rw [if_pos ht]
  have hq := q4h (rest (qf (qn c 1).1 [58, 58]).1 + 2) (qf (qn c 1).1 [58, 58]).1 g2 (by omega)
  generalize qld (rest (qf (qn c 1).1 [58, 58]).1 + 2) (qf (qn c 1).1 [58, 58]).1 = q at *
  repeat' (first | refine vs_ ?_ | ((first | refine vr_ ?_ | fail) <;> (try simp only [ht, go_sem, ↓reduceIte])) | ((first | (refine cs_ ?_ ?_ <;> intro hc) | refine cj_ ?_ | fail | refine qa (qbe c 1) fun _ => ?_ | refine qa (qv _ _) fun _ => ?_ | refine qa hq fun _ => ?_ | refine qb (qbe c 1) ?_ | refine qb (qv _ _) ?_ | refine qb hq ?_) <;> (try refine ev_ ?_)) | with_reducible exact ti_)
  all_goals first | (rw [qgw]; done) | (rw [qgw]; rfl)
 ·rw [if_neg ht]
  have hl := qt2 ih [61] (qn c 1).1 g1 (by omega)
  have hwp := qtc (qdv (qn c 1).1).2 (rec (qi (qdv (qn c 1).1).1 [61]).1).2 (qo1 _ g1)
  unfold qhn qx7 at hl ⊢
  have hvv := qth (qn c 1).1 g1
  generalize qdv (qn c 1).1 = v at *
  repeat' (first | refine vs_ ?_ | ((first | refine vr_ ?_ | fail) <;> (try simp only [ht, go_sem, ↓reduceIte])) | ((first | (refine cs_ ?_ ?_ <;> intro hc) | refine cj_ ?_ | fail | refine qa (qbe c 1) fun _ => ?_ | refine qa (qv _ _) fun _ => ?_ | refine qa hvv fun _ => ?_ | refine qa (qba v.1 _) fun _ => ?_ | refine qa hl fun _ => ?_ | refine qa hwp fun _ => ?_ | refine qb (qbe c 1) ?_ | refine qb (qv _ _) ?_ | refine qb hvv ?_ | refine qb (qba v.1 _) ?_ | refine qb hl ?_ | refine qb hwp ?_) <;> (try refine ev_ ?_)) | with_reducible exact ti_)
  all_goals first | (rw [qgw]; done) | (rw [qgw]; rfl)
end
set_option maxRecDepth 4000

theorem qjk {c : K} (h : (qb1 c).2 = true) : em (qb1 c).1 < em c := by
 unfold qb1 at h ⊢
 simp only [Bool.and_eq_true] at h
 exact qdx h.1
def qy9 (p : Int) (x : Bool × Nat × K × List N) : AF × List Ent :=
 (⟨[(2, .ptr 0 0), (4, .ptr 1 0), (5, .ptr 2 0), (6, .ptr 3 0), (7, .bool x.1)], []⟩,
   .blk (refC x.2.2.1).cells :: zEC :: zEN :: .blk [.int .i64 26, .int .i64 p, .int .i64 0, .str [], accV 4 (encs x.2.2.2)] :: accE 5 (encs x.2.2.2))
def qqn (p : Int) (k : N) (x : Bool × Nat × K × List N) : AF × List Ent :=
 (⟨[(2, .ptr 0 0), (4, .ptr 1 0), (5, .ptr 2 0), (7, .ptr 4 0), (8, .bool x.1)], []⟩,
   .blk (refC x.2.2.1).cells :: zEC :: zEN :: .blk (enc k).cells :: .blk [.int .i64 27, .int .i64 p, .int .i64 0, .str [], if x.2.2.2 = [] then .lit 5 [enc k] else .row 5 (x.2.2.2.length + 1)] ::
    (if x.2.2.2 = [] then [] else [.app 5 (enc k :: encs x.2.2.2)]))
section
variable {rec : K → K × N} {b : Nat} (hm : ∀ c, Mon c (rec c).1) (ih : ∀ c, c.good → em c < b → qz Tryz.prog 88 [refC c] (.tup [refC (rec c).1, enc (rec c).2]))
include hm ih
theorem qbba (p : Int) (c : K) (hg : c.good) (hr : em c < b) : qz Tryz.prog 142 [refC c, .int .i64 p] (.tup [refC (qms rec p c).1, enc (qms rec p c).2]) := by
 have hd := qih hm
 have g1 : (qi c [123]).1.good := (qd _ _).1 hg
 have e1 := (qd c [123]).em
 refine qj c0fo (by simp) (by simp only [go_sem]) (by simp only [go_sem]) fun hw => ?_
 unfold qms qg0
 have gt := (qf4 hd (em (qi c [123]).1 + 2) (qi c [123]).1 []).1 g1
 have et := (qf4 hd (em (qi c [123]).1 + 2) (qi c [123]).1 []).em
 generalize htg : qcx (qdz rec) (em (qi c [123]).1 + 2) (qi c [123]).1 [] = tg at *
 repeat' (first | refine vs_ ?_ | ((first | refine vr_ ?_ | refine qa (qba c _) fun _ => ?_ | refine qb (qba c _) ?_ | (refine cs_ ?_ ?_ <;> intro hc) | refine cj_ ?_ | fail) <;> (try refine ev_ ?_)) | with_reducible exact ti_)
 refine qbm (S := Bool × Nat × K × List N) (fun x => x.2.2.1.good ∧ em x.2.2.1 < b ∧ (x.1 = true → qcx (qdz rec) x.2.1 x.2.2.1 x.2.2.2 = tg ∧ em x.2.2.1 < x.2.1) ∧ (x.1 = false → tg = (x.2.2.1, x.2.2.2) ∧ x.2.2.2 ≠ []) ∧ x.2.2.2.length + (if x.1 = true then em x.2.2.1 + 1 else 0) ≤ 1048579)
  (qy9 p) (fun x => if x.1 = true then em x.2.2.1 + 1 else 0) ?_ ?_
 ·refine q8 (true, em (qi c [123]).1 + 2, (qi c [123]).1, []) [0, 1, 2, 3] ⟨g1, by simp only; omega, fun _ => ⟨htg, by simp only; omega⟩, (by intro h; cases h), ?_⟩ rfl (by simp) ?_ ?_ ?_
  ·have h9 := g1.rest
   have h8 := qgo (qi c [123]).1
   unfold rest at h8
   simp only [List.length_nil, if_true]; omega
  all_goals simp only [qy9, zEC, zEN, encs, qr, qt]
  all_goals (refine ev_ ?_; (try with_reducible exact ti_))
 ·rintro ⟨on, fu, d, acc⟩ ⟨i1, i2, i3, i4, i5⟩
  simp only at i1 i2 i3 i4 i5
  unfold qy9 zEC zEN
  have hcap : qdq (acc.length + 1) 64 := capN (by split at i5 <;> omega)
  cases on with
  | false =>
    obtain ⟨i4, h0⟩ := i4 rfl
    subst i4
    have hne := q9 h0
    have g2 : (qi (qi d [125]).1 [105, 110]).1.good := ((qd _ _).trans (qd _ _)).1 i1
    have e2 := ((qd d [125]).trans (qd _ [105, 110])).em
    have hx := ih _ g2 (by omega)
    unfold qz7
    simp only [qbd hne, qbc hne, qx]
    repeat' (first | refine vs_ ?_ | ((first | refine vr_ ?_ | refine qa (qba _ _) fun _ => ?_ | refine qa hx fun _ => ?_ | refine qb (qba _ _) ?_ | refine qb hx ?_ | (refine cs_ ?_ ?_ <;> intro hc) | refine cj_ ?_ | fail) <;> (try refine ev_ ?_)) | with_reducible exact ti_)
    exact ⟨by rw [qe, qo], by simp only [enc, qe]⟩
  | true =>
    obtain ⟨i3, i6⟩ := i3 rfl
    obtain ⟨fu, rfl⟩ : ∃ k, fu = k + 1 := ⟨fu - 1, by omega⟩
    rw [qcx] at i3
    have hx := qtu ih d i1 i2
    have j1 := (hd d).1 i1
    have j2 := (hd d).em
    generalize qdz rec d = r at *
    obtain ⟨d', n⟩ := r
    simp only at hx j1 j2 i3
    have j3 : (qb1 d').1.good := (qfo d').1 j1
    have j4 := (qfo d').em
    have k3 : (qb1 d').2 = true → qcx (qdz rec) fu (qb1 d').1 (acc ++ [n]) = tg ∧ em (qb1 d').1 < fu := fun h => by
     rw [if_pos h] at i3
     have := qjk h
     exact ⟨i3, by omega⟩
    have k4 : (qb1 d').2 = false → tg = ((qb1 d').1, acc ++ [n]) ∧ acc ++ [n] ≠ [] := fun h => by
     rw [if_neg (by rw [h]; simp)] at i3
     exact ⟨i3.symm, by simp⟩
    have k5 : (if (qb1 d').2 = true then em (qb1 d').1 + 1 else 0) < em d + 1 := by
     split
     ·rename_i h; have := qjk h; omega
     ·omega
    have k6 : (acc ++ [n]).length + (if (qb1 d').2 = true then em (qb1 d').1 + 1 else 0) ≤ 1048579 := by
     simp only [if_true] at i5
     simp only [List.length_append, List.length_cons, List.length_nil]
     omega
    by_cases h0 : acc = []
    ·subst h0
     simp only [encs, qr, qt]
     repeat' (first | refine vs_ ?_ | ((first | refine vr_ ?_ | refine qa hx fun _ => ?_ | refine qa (qfy d') fun _ => ?_ | refine qb hx ?_ | refine qb (qfy d') ?_ | (refine cs_ ?_ ?_ <;> intro hc) | refine cj_ ?_ | fail) <;> (try refine ev_ ?_)) | with_reducible exact ti_)
     all_goals (
      refine q8 ((qb1 d').2, fu, (qb1 d').1, [] ++ [n]) [0, 1, 2, 3, 6] ⟨⟨j3, by simp only; omega, k3, k4, k6⟩, by simpa using k5⟩ rfl (by simp) ?_ ?_ ?_
      all_goals simp only [qy9, zEC, zEN, ← qe, qbs, qbr, List.nil_append, encs, qby, qbx]
      all_goals (refine ev_ ?_; (try with_reducible exact ti_))
      all_goals (try (rw [qe, qo, qbb]; exact ⟨rfl, rfl⟩)))
    ·have hne := q9 h0
     simp only [qbd hne, qbc hne, qx]
     repeat' (first | refine vs_ ?_ | ((first | refine vr_ ?_ | refine qa hx fun _ => ?_ | refine qa (qfy d') fun _ => ?_ | refine qb hx ?_ | refine qb (qfy d') ?_ | (refine cs_ ?_ ?_ <;> intro hc) | refine cj_ ?_ | fail) <;> (try refine ev_ ?_)) | with_reducible exact ti_)
     all_goals (
      refine q8 ((qb1 d').2, fu, (qb1 d').1, acc ++ [n]) [0, 1, 2, 3, 7] ⟨⟨j3, by simp only; omega, k3, k4, k6⟩, by simpa using k5⟩ rfl (by simp) ?_ ?_ ?_
      all_goals simp only [qy9, zEC, zEN, ← qe, qbs, qbr, List.nil_append, encs, qby, qbx]
      all_goals (refine ev_ ?_; (try with_reducible exact ti_))
      all_goals (try (rw [qe, qo, qbb]; exact ⟨rfl, rfl⟩)))
end
set_option maxRecDepth 4000

section
variable {rec : K → K × N} {b : Nat} (hm : ∀ c, Mon c (rec c).1) (ih : ∀ c, c.good → em c < b → qz Tryz.prog 88 [refC c] (.tup [refC (rec c).1, enc (rec c).2]))
include hm ih
theorem q07 (p : Int) (c : K) (hg : c.good) (hr : em c < b) : qz Tryz.prog 143 [refC c, .int .i64 p] (.tup [refC (qjy rec p c).1, enc (qjy rec p c).2]) := by
 have hd := qmk hm
 have hx := ih c hg hr
 have g0 := (hm c).1 hg
 have e0 := (hm c).em
 refine qj c0fm (by simp) (by simp only [go_sem]) (by simp only [go_sem]) fun hw => ?_
 unfold qjy qg0
 generalize rec c = r0 at *
 obtain ⟨d0, k⟩ := r0
 simp only at hx g0 e0 ⊢
 have g1 : (qi (qi d0 [111, 102]).1 [123]).1.good := ((qd _ _).trans (qd _ _)).1 g0
 have e1 := ((qd d0 [111, 102]).trans (qd _ [123])).em
 generalize htg : qcx (qgs rec) (em (qi (qi d0 [111, 102]).1 [123]).1 + 2) (qi (qi d0 [111, 102]).1 [123]).1 [] = tg at *
 repeat' (first | refine vs_ ?_ | ((first | refine vr_ ?_ | refine qa hx fun _ => ?_ | refine qa (qba _ _) fun _ => ?_ | refine qb hx ?_ | refine qb (qba _ _) ?_ | (refine cs_ ?_ ?_ <;> intro hc) | refine cj_ ?_ | fail) <;> (try refine ev_ ?_)) | with_reducible exact ti_)
 refine qbm (S := Bool × Nat × K × List N) (fun x => x.2.2.1.good ∧ em x.2.2.1 < b ∧ (x.1 = true → qcx (qgs rec) x.2.1 x.2.2.1 x.2.2.2 = tg ∧ em x.2.2.1 < x.2.1) ∧ (x.1 = false → tg = (x.2.2.1, x.2.2.2) ∧ x.2.2.2 ≠ []) ∧ x.2.2.2.length + (if x.1 = true then em x.2.2.1 + 1 else 0) ≤ 1048579)
  (qqn p k) (fun x => if x.1 = true then em x.2.2.1 + 1 else 0) ?_ ?_
 ·refine q8 (true, em (qi (qi d0 [111, 102]).1 [123]).1 + 2, (qi (qi d0 [111, 102]).1 [123]).1, []) [0, 1, 2, 3, 4] ⟨g1, by simp only; omega, fun _ => ⟨htg, by simp only; omega⟩, (by intro h; cases h), ?_⟩ rfl (by simp) ?_ ?_ ?_
  ·have h9 := g1.rest
   have h8 := qgo (qi (qi d0 [111, 102]).1 [123]).1
   unfold rest at h8
   simp only [List.length_nil, if_true]; omega
  all_goals simp only [qqn, zEC, zEN, if_true]
  all_goals (refine ev_ ?_; (try with_reducible exact ti_))
 ·rintro ⟨on, fu, d, acc⟩ ⟨i1, i2, i3, i4, i5⟩
  simp only at i1 i2 i3 i4 i5
  unfold qqn zEC zEN
  cases on with
  | false =>
    obtain ⟨i4, h0⟩ := i4 rfl
    subst i4
    unfold qv3
    simp only [if_neg h0]
    repeat' (first | refine vs_ ?_ | ((first | refine vr_ ?_ | refine qa (qba _ _) fun _ => ?_ | refine qb (qba _ _) ?_ | (refine cs_ ?_ ?_ <;> intro hc) | refine cj_ ?_ | fail) <;> (try refine ev_ ?_)) | with_reducible exact ti_)
    simp only [enc, encs]
  | true =>
    have hcap : qdq (acc.length + 1 + 1) 64 := capN (by simp only [if_true] at i5; omega)
    obtain ⟨i3, i6⟩ := i3 rfl
    obtain ⟨fu, rfl⟩ : ∃ k, fu = k + 1 := ⟨fu - 1, by omega⟩
    rw [qcx] at i3
    have hp := qblj (rest d + 2) d i1 (by have := qgo d; omega)
    have q1 := (qhy (rest d + 2) d).1 i1
    have q2 := (qhy (rest d + 2) d).em
    have j1 := (hd d).1 i1
    have j2 := (hd d).em
    unfold qgs qwo at i3 j1 j2
    generalize qen (rest d + 2) d = pr at *
    obtain ⟨d1, pt⟩ := pr
    simp only at hp q1 q2 i3 j1 j2
    have q3 : (qi d1 [45, 62]).1.good := (qd _ _).1 q1
    have hx := ih (qi d1 [45, 62]).1 q3 (by have := (qd d1 [45, 62]).em; omega)
    generalize rec (qi d1 [45, 62]).1 = r at *
    obtain ⟨d', e⟩ := r
    simp only at hx j1 j2 i3
    have j3 : (qb1 d').1.good := (qfo d').1 j1
    have j4 := (qfo d').em
    have k3 : (qb1 d').2 = true → qcx (qgs rec) fu (qb1 d').1 (acc ++ [altN pt e]) = tg ∧ em (qb1 d').1 < fu := fun h => by
     rw [if_pos h] at i3
     have := qjk h
     exact ⟨i3, by omega⟩
    have k4 : (qb1 d').2 = false → tg = ((qb1 d').1, acc ++ [altN pt e]) ∧ acc ++ [altN pt e] ≠ [] := fun h => by
     rw [if_neg (by rw [h]; simp)] at i3
     exact ⟨i3.symm, by simp⟩
    have k5 : (if (qb1 d').2 = true then em (qb1 d').1 + 1 else 0) < em d + 1 := by
     split
     ·rename_i h; have := qjk h; omega
     ·omega
    have k6 : (acc ++ [altN pt e]).length + (if (qb1 d').2 = true then em (qb1 d').1 + 1 else 0) ≤ 1048579 := by
     simp only [if_true] at i5
     simp only [List.length_append, List.length_cons, List.length_nil]
     omega
    by_cases h0 : acc = []
    ·subst h0
     have hcap2 : qdq 2 64 := capN (by omega)
     clear hcap
     simp only [if_true]
     repeat' (first | refine vs_ ?_ | ((first | refine vr_ ?_ | fail) <;> (try simp only [hcap2, go_sem, ↓reduceIte])) | ((first | (refine cs_ ?_ ?_ <;> intro hc) | refine cj_ ?_ | fail | refine qa hp fun _ => ?_ | refine qa (qba _ _) fun _ => ?_ | refine qa hx fun _ => ?_ | refine qa (qfy d') fun _ => ?_ | refine qb hp ?_ | refine qb (qba _ _) ?_ | refine qb hx ?_ | refine qb (qfy d') ?_) <;> (try refine ev_ ?_)) | with_reducible exact ti_)
     all_goals (
      have hne : ¬ [] ++ [altN pt e] = [] := by simp
      refine q8 ((qb1 d').2, fu, (qb1 d').1, [] ++ [altN pt e]) [0, 1, 2, 3, 4, 8] ⟨⟨j3, by simp only; omega, k3, k4, k6⟩, by simpa using k5⟩ rfl (by simp) ?_ ?_ ?_
      all_goals simp only [qqn, zEC, zEN, if_neg hne, List.length_append, List.length_cons, List.length_nil]
      all_goals (try simp only [← qe, List.nil_append, encs, altN, enc])
      all_goals (refine ev_ ?_; (try with_reducible exact ti_))
      all_goals (try (rw [qsy, qe, qo, qbb]; exact ⟨rfl, rfl⟩)))
    ·simp only [if_neg h0]
     have hlen : (enc k :: encs acc).length = acc.length + 1 := by simp [qx]
     repeat' (first | refine vs_ ?_ | ((first | refine vr_ ?_ | fail) <;> (try simp only [hlen, hcap, go_sem, ↓reduceIte])) | ((first | (refine cs_ ?_ ?_ <;> intro hc) | refine cj_ ?_ | fail | refine qa hp fun _ => ?_ | refine qa (qba _ _) fun _ => ?_ | refine qa hx fun _ => ?_ | refine qa (qfy d') fun _ => ?_ | refine qb hp ?_ | refine qb (qba _ _) ?_ | refine qb hx ?_ | refine qb (qfy d') ?_) <;> (try refine ev_ ?_)) | with_reducible exact ti_)
     all_goals (
      have hne : ¬ acc ++ [altN pt e] = [] := by simp
      refine q8 ((qb1 d').2, fu, (qb1 d').1, acc ++ [altN pt e]) [0, 1, 2, 3, 4, 9] ⟨⟨j3, by simp only; omega, k3, k4, k6⟩, by simpa using k5⟩ rfl (by simp) ?_ ?_ ?_
      all_goals simp only [qqn, zEC, zEN, if_neg hne, List.length_append, List.length_cons, List.length_nil]
      all_goals (try simp only [← qe, List.nil_append, encs, altN, enc])
      all_goals (refine ev_ ?_; (try with_reducible exact ti_))
      all_goals (try (rw [qsy, qe, qo, qbb]; exact ⟨rfl, rfl⟩)))
theorem q8o (p : Int) (c : K) (hg : c.good) (hr : em c < b) : qz Tryz.prog 144 [refC c, .int .i64 p] (.tup [refC (qmg rec p c).1, enc (qmg rec p c).2]) := by
 have h1 := ih c hg hr
 have g1 := (hm c).1 hg
 have e1 := (hm c).em
 refine qj c0fn (by simp) (by simp only [go_sem]) (by simp only [go_sem]) fun hw => ?_
 unfold qmg q80
 generalize rec c = r1 at *
 obtain ⟨d1, n1⟩ := r1
 simp only at h1 g1 e1 ⊢
 have g2 : (qi d1 [116, 104, 101, 110]).1.good := (qd _ _).1 g1
 have e2 := (qd d1 [116, 104, 101, 110]).em
 have h2 := ih _ g2 (by omega)
 have g3 := (hm (qi d1 [116, 104, 101, 110]).1).1 g2
 have e3 := (hm (qi d1 [116, 104, 101, 110]).1).em
 unfold qub
 generalize rec (qi d1 [116, 104, 101, 110]).1 = r2 at *
 obtain ⟨d2, n2⟩ := r2
 simp only at h2 g3 e3 ⊢
 have g4 : (qi d2 [101, 108, 115, 101]).1.good := (qd _ _).1 g3
 have e4 := (qd d2 [101, 108, 115, 101]).em
 have h3 := ih _ g4 (by omega)
 unfold q2w
 generalize rec (qi d2 [101, 108, 115, 101]).1 = r3 at *
 obtain ⟨d3, n3⟩ := r3
 simp only at h3 ⊢
 repeat' (first | refine vs_ ?_ | ((first | refine vr_ ?_ | refine qa h1 fun _ => ?_ | refine qa h2 fun _ => ?_ | refine qa h3 fun _ => ?_ | refine qa (qba _ _) fun _ => ?_ | refine qb h1 ?_ | refine qb h2 ?_ | refine qb h3 ?_ | refine qb (qba _ _) ?_ | (refine cs_ ?_ ?_ <;> intro hc) | refine cj_ ?_ | fail) <;> (try refine ev_ ?_)) | with_reducible exact ti_)
 all_goals (simp only [enc, encs])
end
set_option maxRecDepth 4000

theorem q8r {P : Program} {fr : Option Nat} {k m : Nat} {a : IC} {Q : VE → AF → List Ent → Prop} {af : AF} {A B C : Ent} {L : List Ent} {fl : Bool} {n : N} (h : VI P fr k m a Q af (A :: B :: C :: .blk (enc n).cells :: L)) : VI P fr k m a Q af (A :: B :: C :: qn3 fl n :: L) := by
 cases n
 cases fl with
 | false => exact h
 | true =>
   refine qvn 3 4 (.sl 5) (by rfl) ?_
   simp only [List.getD_cons_succ, List.getD_cons_zero, if_true, qng, List.set_cons_succ, List.set_cons_zero]
   exact h
def qvo (x : Bool × Nat × K × N) : AF × List Ent :=
 (⟨[(1, .ptr 0 0), (2, .ptr 1 0), (3, .ptr 2 0), (13, .ptr 3 0)], []⟩, [.blk (refC x.2.2.1).cells, zEC, zEN, qn3 x.1 x.2.2.2])
section
variable {rec : K → K × N} {b : Nat} (hm : ∀ c, Mon c (rec c).1) (ih : ∀ c, c.good → em c < b → qz Tryz.prog 88 [refC c] (.tup [refC (rec c).1, enc (rec c).2]))
include hm ih
theorem q32 (c : K) (hg : c.good) (hr : em c ≤ b) : qz Tryz.prog 124 [refC c] (.tup [refC (qfp rec c).1, enc (qfp rec c).2]) := by
 have g1 : (qf c [92]).1.good := (qk _ _).1 hg
 have g2 : (qf c [108, 101, 116]).1.good := (qk _ _).1 hg
 have g3 : (qf c [99, 97, 115, 101]).1.good := (qk _ _).1 hg
 have g4 : (qf c [105, 102]).1.good := (qk _ _).1 hg
 have hb : (UInt8.ofNat 92) = 92 := rfl
 refine qj c0fk (by simp) (by simp only [go_sem]) (by simp only [go_sem]) fun hw => ?_
 unfold qfp
 by_cases t1 : (qf c [92]).2 = true
 ·rw [if_pos t1]
  have hl := q9b ih _ g1 (Nat.lt_of_lt_of_le (qdx t1) hr)
  repeat' (first | refine vs_ ?_ | ((first | refine vr_ ?_ | fail) <;> (try simp only [hb, t1, go_sem, ↓reduceIte])) | ((first | (refine cs_ ?_ ?_ <;> intro hc) | refine cj_ ?_ | fail | refine qa (ql c) fun _ => ?_ | refine qa (qv c _) fun _ => ?_ | refine qa hl fun _ => ?_ | refine qb (ql c) ?_ | refine qb (qv c _) ?_ | refine qb hl ?_) <;> (try refine ev_ ?_)) | with_reducible exact ti_)
 ·have t1f : (qf c [92]).2 = false := by simpa using t1
  rw [if_neg t1]
  by_cases t2 : (qf c [108, 101, 116]).2 = true
  ·rw [if_pos t2]
   have hl := qbba hm ih (qq c).pos _ g2 (Nat.lt_of_lt_of_le (qdx t2) hr)
   repeat' (first | refine vs_ ?_ | ((first | refine vr_ ?_ | fail) <;> (try simp only [hb, t1f, t2, go_sem, ↓reduceIte])) | ((first | (refine cs_ ?_ ?_ <;> intro hc) | refine cj_ ?_ | fail | refine qa (ql c) fun _ => ?_ | refine qa (qv c _) fun _ => ?_ | refine qa hl fun _ => ?_ | refine qb (ql c) ?_ | refine qb (qv c _) ?_ | refine qb hl ?_) <;> (try refine ev_ ?_)) | with_reducible exact ti_)
  ·have t2f : (qf c [108, 101, 116]).2 = false := by simpa using t2
   rw [if_neg t2]
   by_cases t3 : (qf c [99, 97, 115, 101]).2 = true
   ·rw [if_pos t3]
    have hl := q07 hm ih (qq c).pos _ g3 (Nat.lt_of_lt_of_le (qdx t3) hr)
    repeat' (first | refine vs_ ?_ | ((first | refine vr_ ?_ | fail) <;> (try simp only [hb, t1f, t2f, t3, go_sem, ↓reduceIte])) | ((first | (refine cs_ ?_ ?_ <;> intro hc) | refine cj_ ?_ | fail | refine qa (ql c) fun _ => ?_ | refine qa (qv c _) fun _ => ?_ | refine qa hl fun _ => ?_ | refine qb (ql c) ?_ | refine qb (qv c _) ?_ | refine qb hl ?_) <;> (try refine ev_ ?_)) | with_reducible exact ti_)
   ·have t3f : (qf c [99, 97, 115, 101]).2 = false := by simpa using t3
    rw [if_neg t3]
    by_cases t4 : (qf c [105, 102]).2 = true
    ·rw [if_pos t4]
     have hl := q8o hm ih (qq c).pos _ g4 (Nat.lt_of_lt_of_le (qdx t4) hr)
     repeat' (first | refine vs_ ?_ | ((first | refine vr_ ?_ | fail) <;> (try simp only [hb, t1f, t2f, t3f, t4, go_sem, ↓reduceIte])) | ((first | (refine cs_ ?_ ?_ <;> intro hc) | refine cj_ ?_ | fail | refine qa (ql c) fun _ => ?_ | refine qa (qv c _) fun _ => ?_ | refine qa hl fun _ => ?_ | refine qb (ql c) ?_ | refine qb (qv c _) ?_ | refine qb hl ?_) <;> (try refine ev_ ?_)) | with_reducible exact ti_)
    ·have t4f : (qf c [105, 102]).2 = false := by simpa using t4
     rw [if_neg t4]
     have ha := qt9 hm ih c hg hr
     have j0 := (qex hm c).1 hg
     have e0 := (qex hm c).em
     unfold qn5
     generalize qdo rec c = r0 at *
     obtain ⟨d0, n0⟩ := r0
     simp only at ha j0 e0
     generalize htg : qf5 rec (em (d0, n0).1 + 1) (d0, n0).1 (d0, n0).2 = tg
     simp only at htg
     repeat' (first | refine vs_ ?_ | ((first | refine vr_ ?_ | fail) <;> (try simp only [hb, t1f, t2f, t3f, t4f, go_sem, ↓reduceIte])) | ((first | (refine cs_ ?_ ?_ <;> intro hc) | refine cj_ ?_ | fail | refine qa (ql c) fun _ => ?_ | refine qa (qv c _) fun _ => ?_ | refine qa ha fun _ => ?_ | refine qb (ql c) ?_ | refine qb (qv c _) ?_ | refine qb ha ?_) <;> (try refine ev_ ?_)) | with_reducible exact ti_)
     refine qbm (S := Bool × Nat × K × N) (fun x => x.2.2.1.good ∧ em x.2.2.1 ≤ b ∧ qf5 rec x.2.1 x.2.2.1 x.2.2.2 = tg ∧ em x.2.2.1 < x.2.1) qvo (fun x => em x.2.2.1) ?_ ?_
     ·refine q8 (false, em d0 + 1, d0, n0) [0, 1, 2, 7] ⟨j0, by simp only; omega, htg, Nat.lt_succ_self _⟩ rfl (by simp) ?_ ?_ ?_
      all_goals simp only [qvo, qn3, zEC, zEN]
      all_goals (refine ev_ ?_; (try with_reducible exact ti_))
     ·rintro ⟨fl, fu, d, n⟩ ⟨i1, i2, i3, i4⟩
      simp only at i1 i2 i3 i4
      unfold qvo zEC zEN
      refine q8r ?_
      obtain ⟨fu, rfl⟩ : ∃ k, fu = k + 1 := ⟨fu - 1, by omega⟩
      rw [qf5] at i3
      have ha2 := qt9 hm ih d i1 i2
      have j1 := (qex hm d).1 i1
      have e1 := (qex hm d).em
      have hlt := qne hm (c := d)
      generalize qdo rec d = r at *
      obtain ⟨d', k⟩ := r
      simp only at ha2 j1 e1 hlt i3
      by_cases hbg : begE d = true
      ·rw [if_pos hbg] at i3
       have hlt := hlt hbg
       repeat' (first | refine vs_ ?_ | ((first | refine vr_ ?_ | fail) <;> (try simp only [hbg, go_sem, ↓reduceIte])) | ((first | (refine cs_ ?_ ?_ <;> intro hc) | refine cj_ ?_ | fail | refine qa (qfx d) fun _ => ?_ | refine qa ha2 fun _ => ?_ | refine qb (qfx d) ?_ | refine qb ha2 ?_) <;> (try refine ev_ ?_)) | with_reducible exact ti_)
       refine q8 (true, fu, d', appN n k) [0, 1, 2, 3] ⟨⟨j1, by simp only; omega, i3, by simp only; omega⟩, by simp only; omega⟩ rfl (by simp) ?_ ?_ ?_
       all_goals simp only [qvo, zEC, zEN, qn3, appN, encs, N.kind, N.pos, N.num, N.text, N.kids]
       all_goals (refine ev_ ?_; (try with_reducible exact ti_))
      ·rw [if_neg hbg] at i3
       subst i3
       repeat' (first | refine vs_ ?_ | ((first | refine vr_ ?_ | fail) <;> (try simp only [hbg, go_sem, ↓reduceIte])) | ((first | (refine cs_ ?_ ?_ <;> intro hc) | refine cj_ ?_ | fail | refine qa (qfx d) fun _ => ?_ | refine qb (qfx d) ?_) <;> (try refine ev_ ?_)) | with_reducible exact ti_)
       all_goals (try rfl)
end
theorem qwa {f : Nat} (ih : ∀ c, c.good → em c < f → qz Tryz.prog 88 [refC c] (.tup [refC (qhb f c).1, enc (qhb f c).2])) (c : K) (hg : c.good) (hr : em c < f + 1) :
 qz Tryz.prog 88 [refC c] (.tup [refC (qhb (f + 1) c).1, enc (qhb (f + 1) c).2]) := by
 have hm := qlp f
 have g1 : (qc c).1.good := (qm c).1 hg
 have hr1 : em (qc c).1 ≤ f := by have := (qm c).em; omega
 have ho := q32 hm ih _ g1 hr1
 have g2 := (qoy hm (qc c).1).1 g1
 refine qj c0fl (by simp) (by simp only [go_sem]) (by simp only [go_sem]) fun hw => ?_
 rw [qhb]
 generalize qfp (qhb f) (qc c).1 = r at *
 repeat' (first | refine vs_ ?_ | ((first | refine vr_ ?_ | refine qa (qcp c) fun _ => ?_ | refine qa ho fun _ => ?_ | refine qa (qb4 _ g2.2.2) fun _ => ?_ | refine qb (qcp c) ?_ | refine qb ho ?_ | refine qb (qb4 _ g2.2.2) ?_ | (refine cs_ ?_ ?_ <;> intro hc) | refine cj_ ?_ | fail) <;> (try refine ev_ ?_)) | with_reducible exact ti_)
theorem qbi2 (f : Nat) : ∀ c : K, c.good → em c < f → qz Tryz.prog 88 [refC c] (.tup [refC (qhb f c).1, enc (qhb f c).2]) := by
 induction f with
 | zero => exact fun c _ h => absurd h (by omega)
 | succ f ih => exact qwa ih

def NoEnd (c : K) : Prop := ∀ t ∈ c.l, t.kind ≠ 0
theorem NoEnd.mon {c c' : K} (h : NoEnd c) (m : Mon c c') : NoEnd c' := by unfold NoEnd; rw [m.2.2.2.1]; exact h
theorem qbml (r : K × Option N) : toO (ofO r) = r := by
 obtain ⟨c, o⟩ := r
 cases o <;> rfl
theorem qfj {p : R3} {r : K × N} (h1 : p.1 = r.1) (h2 : p.2.2 = true → p.2.1 = r.2) (h3 : p.2.2 = false → p.1.err ≠ 0) : qd6 (toO p) r := by
 obtain ⟨d, n, ok⟩ := p
 cases ok with
 | false => exact ⟨h1, (fun n h => by cases h), fun _ => h3 rfl⟩
 | true => exact ⟨h1, (fun n h => by cases h; exact h2 rfl), (fun h => by cases h)⟩
theorem qpw {p : R3} {r : K × N} (h : qd6 (toO p) r) : p.1 = r.1 := h.1
theorem q2u {p : R3} {r : K × N} (h : qd6 (toO p) r) (hs : p.2.2 = true) : p.2.1 = r.2 := h.2.1 _ (by unfold toO; simp only; rw [if_pos hs])
theorem q15 {p : R3} {r : K × N} (h : qd6 (toO p) r) (hs : p.2.2 = false) : p.1.err ≠ 0 := h.2.2 (by unfold toO; simp only; rw [if_neg (by rw [hs]; simp)])
theorem qi0 {p : K × Option N} {r : K × N} (h : qd6 p r) (hs : ¬ p.2.isSome = true) : p.1.err ≠ 0 := h.2.2 (by
 cases ho : p.2 with
 | none => rfl
 | some n => rw [ho] at hs; exact absurd rfl hs)
theorem qiy {p : K × Option N} {r : K × N} (h : qd6 p r) (hs : p.2.isSome = true) : p.2.getD N0 = r.2 := by
 obtain ⟨n, hn⟩ := Option.isSome_iff_exists.1 hs
 rw [hn]
 exact h.2.1 n hn
theorem qyx {rec : K → K × N} {c : K} (h : c.err ≠ 0) : qdo rec c = (c, N0) := by
 rw [qdo, if_neg (by rw [qvq h]; simp), qfd h]
theorem qla {rec : K → K × N} {c : K} (h : c.err ≠ 0) (f : Nat) (n : N) : qf5 rec f c n = (c, n) := by
 cases f with
 | zero => rfl
 | succ f => rw [qf5, if_neg (by rw [qvq h]; simp)]
theorem qrh {c : K} (h : c.err ≠ 0) (f : Nat) (acc : List T) : qdw f c acc = (c, acc) := by
 cases f with
 | zero => rfl
 | succ f => rw [qdw, qgd h, if_neg (by decide)]
theorem qky {c : K} {k : Int} (h : c.err ≠ 0) : qn c k = (c, false) := by rw [qvm h, qfd h]
theorem qmr : ∀ (f : Nat) (c : K) (acc : List T), qdw f c acc = ((qdw f c []).1, acc ++ (qdw f c []).2)
 | 0, c, acc => by simp [qdw]
 | f + 1, c, acc => by
   rw [qdw, qdw]
   split
   ·rw [qmr f _ (acc ++ [qq c]), qmr f _ ([] ++ [qq c])]
    simp
   ·simp
section
variable {rp : K → K × Option N} {rr : K → K × N} {b : Nat} (hx : ∀ c : K, c.err ≠ 0 → (rr c).1 = c) (ih : ∀ c, NoEnd c → em c < b → qd6 (rp c) (rr c))
include hx ih
theorem qrl {c : K} (hn : NoEnd c) (hr : em c ≤ b) : qd6 (qbl rp c) (qdo rr c) := by
 unfold qbl qdo
 by_cases hl : (qkj c).isSome = true
 ·have hk : ¬ isK c [40] = true := by
   intro h
   obtain ⟨n, hn⟩ := Option.isSome_iff_exists.1 hl
   simp only [isK, qka, Bool.and_eq_true, Bool.or_eq_true, decide_eq_true_eq] at h
   unfold qkj at hn
   rw [if_neg (by omega), if_neg (by omega), if_neg (by omega)] at hn
   cases hn
  rw [if_pos hl, if_pos (show begE c = true by simp [begE, hl]), if_neg hk]
  exact ⟨rfl, fun n h => by simp only at h ⊢; rw [h]; rfl, fun h => by simp only at h; rw [h] at hl; cases hl⟩
 ·rw [if_neg hl]
  by_cases hk : isK c [40] = true
  ·rw [if_pos hk, if_pos (show begE c = true by simp [begE, hk]), if_pos hk]
   have hem := qfn hk
   by_cases he : (qc c).2 = true
   ·rw [if_pos he]
    have hk' : isK (qc c).1 [40] = true := by rw [qpx he]; exact hk
    rw [qqe hk'] at hem ⊢
    simp only at hem ⊢
    obtain ⟨a1, a2, a3⟩ := ih (qu (qc c).1) (hn.mon ((qm c).trans (qbo _))) (by omega)
    rw [← a1]
    generalize rp (qu (qc c).1) = r at *
    obtain ⟨d, o⟩ := r
    simp only at a1 a2 a3 ⊢
    cases o with
    | none =>
      have h3 := a3 rfl
      rw [if_neg (by simp), qbu h3, qcn h3]
      exact ⟨rfl, (fun n h => by cases h), fun _ => h3⟩
    | some n =>
      rw [if_pos (by rfl)]
      by_cases hw : (qi d [41]).2 = true
      ·rw [if_pos hw]
       exact ⟨rfl, fun m h => a2 m h, (fun h => by cases h)⟩
      ·rw [if_neg hw]
       have h3 := qdp (by simpa using hw)
       exact ⟨(qcn h3).symm, (fun n h => by cases h), fun _ => h3⟩
   ·have he' : (qc c).2 = false := by simpa using he
    have h1 := qg5 he'
    rw [if_neg he]
    rw [qbu h1] at hem ⊢
    simp only at hem ⊢
    rw [hx _ h1, qbu h1, qcn h1]
    exact ⟨rfl, (fun n h => by cases h), fun _ => h1⟩
  ·rw [if_neg hk, if_neg (show ¬ begE c = true by simp [begE, hl, hk])]
   exact ⟨rfl, (fun n h => by cases h), fun _ => qg1 c⟩
theorem qsx (hp : ∀ c, Mon c (rp c).1) (hm : ∀ c, Mon c (rr c).1) : ∀ (f g : Nat) (c : K) (n : N), NoEnd c → rest c < f → em c < g → em c ≤ b → qd6 (toO (qgg rp f c n)) (qf5 rr g c n)
 | 0, _, _, _ => fun _ h _ _ => by omega
 | _, 0, _, _ => fun _ _ h _ => by omega
 | f + 1, g + 1, c, n => fun hn hf hg hb => by
   rw [qgg, qf5]
   by_cases hk : begE c = true
   ·rw [if_pos hk, if_pos hk]
    have ha := qrl hx ih hn hb
    have hl := qne hm hk
    have hml := qdc hp c
    by_cases hs : (qbl rp c).2.isSome = true
    ·rw [if_pos hs, qiy ha hs, ← ha.1]
     have hlt := qk0 hp hs
     rw [← ha.1] at hl
     exact qsx hp hm f g _ _ (hn.mon hml) (by omega) (by omega) (by omega)
    ·rw [if_neg hs]
     have h3 := qi0 ha hs
     rw [qla (by rw [← ha.1]; exact h3)]
     exact qfj ha.1 (fun h => by cases h) (fun _ => h3)
   ·rw [if_neg hk, if_neg hk]
    exact qfj rfl (fun _ => rfl) (fun h => by cases h)
theorem q4r (hp : ∀ c, Mon c (rp c).1) (hm : ∀ c, Mon c (rr c).1) {c : K} (hn : NoEnd c) (hr : em c ≤ b) : qd6 (toO (qh9 rp c)) (qn5 rr c) := by
 unfold qh9 qn5
 have ha := qrl hx ih hn hr
 have hml := qdc hp c
 have hme := (qex hm c).em
 by_cases hs : (qbl rp c).2.isSome = true
 ·rw [if_pos hs, qiy ha hs, ← ha.1]
  rw [← ha.1] at hme
  exact qsx hx ih hp hm _ _ _ _ (hn.mon hml) (Nat.lt_succ_self _) (Nat.lt_succ_self _) (by omega)
 ·rw [if_neg hs]
  have h3 := qi0 ha hs
  rw [qla (by rw [← ha.1]; exact h3)]
  exact qfj ha.1 (fun h => by cases h) (fun _ => h3)
theorem qmc (x : List UInt8) : ∀ (f g : Nat) (c : K), NoEnd c → rest c < f → em c < g → em c < b → qd6 (toO (qck rp x f c)) (qx7 rr x (qdw g c []))
 | 0, _, _ => fun _ h _ _ => by omega
 | _, 0, _ => fun _ _ h _ => by omega
 | f + 1, g + 1, c => fun hn hf hg hb => by
   rw [qck, qdw]
   by_cases hk : (qq c).kind = 1
   ·rw [if_pos hk, if_pos hk, qmr]
    have h1 := qbk (c := c) (by omega)
    have h2 := qku (c := c) (by omega)
    have ha := qmc x f g (qu c) (hn.mon (qbo c)) (by omega) (by omega) (by omega)
    refine qfj (show (qck rp x f (qu c)).1 = (qx7 rr x (qdw g (qu c) [])).1 from qpw ha) (fun h => ?_) (fun h => q15 (p := qck rp x f (qu c)) ha h)
    simp only
    rw [q2u (p := qck rp x f (qu c)) ha h]
    rfl
   ·rw [if_neg hk, if_neg hk]
    have hw := (qd c x).em
    unfold qx7
    simp only [q0x, List.foldr_nil]
    by_cases hs : (qi c x).2 = true
    ·rw [if_pos hs, qbml]
     exact ih _ (hn.mon (qd c x)) (by omega)
    ·rw [if_neg hs]
     have h3 := qdp (c := c) (x := x) (by simpa using hs)
     exact qfj (hx _ h3).symm (fun h => by cases h) (fun _ => h3)
theorem qr4 {c : K} (hn : NoEnd c) (hr : em c < b) : qd6 (qb8 rp c) (qdz rr c) := by
 have hk1 := qbf c 1
 have e1 := hk1.em
 unfold qb8 qdz
 by_cases hk : (qn c 1).2 = true
 ·rw [if_pos hk]
  by_cases ht : (qf (qn c 1).1 [58, 58]).2 = true
  ·rw [if_pos ht, if_pos ht]
   have hem := qgo (qf (qn c 1).1 [58, 58]).1
   have ha := q4q (rest (qf (qn c 1).1 [58, 58]).1 + 2) (qf (qn c 1).1 [58, 58]).1 (hn.mon (hk1.trans (qk _ _))) (by omega)
   refine ⟨ha.1, fun n h => ?_, fun h => ha.2.2 (by simpa using h)⟩
   obtain ⟨q, hq, rfl⟩ := Option.map_eq_some_iff.1 h
   rw [ha.2.1 q hq]
  ·rw [if_neg ht, if_neg ht]
   have ha := qmc hx ih [61] (rest (qn c 1).1 + 1) (em (qn c 1).1 + 1) (qn c 1).1 (hn.mon hk1) (Nat.lt_succ_self _) (Nat.lt_succ_self _) (by omega)
   refine ⟨ha.1, fun n h => ?_, fun h => ha.2.2 (by simpa using h)⟩
   obtain ⟨q, hq, rfl⟩ := Option.map_eq_some_iff.1 h
   exact congrArg _ (ha.2.1 q hq)
 ·rw [if_neg hk]
  have h3 := qnc (c := c) (k := 1) (by simpa using hk)
  rw [qe2 h3, if_neg (by simp)]
  unfold qhn qdv qx7
  rw [qrh h3]
  simp only
  rw [qbu h3, hx _ h3]
  exact ⟨rfl, (fun n h => by cases h), fun _ => h3⟩
omit ih in
theorem qzp {c : K} (h : c.err ≠ 0) : (qdz rr c).1 = c := by
 unfold qdz qhn qdv qx7
 rw [qky h, qe2 h, if_neg (by simp), qrh h]
 simp only
 rw [qbu h, hx _ h]
end
theorem qsz {rp : K → R3} {rr : K → K × N} {b : Nat} (hp : ∀ c, Mon c (rp c).1) (hm : ∀ c, Mon c (rr c).1) (hl : ∀ c, (rp c).2.2 = true → rest (rp c).1 < rest c) (ih : ∀ c, NoEnd c → em c < b → qd6 (toO (rp c)) (rr c)) :
 ∀ (f g : Nat) (c : K) (acc : List N), NoEnd c → rest c < f → em c < g → em c < b →
   (qcc rp f c acc).1 = (qi (qcx rr g c acc).1 [125]).1 ∧ ((qcc rp f c acc).2.2 = true → (qcc rp f c acc).2.1 = (qcx rr g c acc).2) ∧ ((qcc rp f c acc).2.2 = false → (qcc rp f c acc).1.err ≠ 0)
 | 0, _, _, _ => fun _ h _ _ => by omega
 | _, 0, _, _ => fun _ _ h _ => by omega
 | f + 1, g + 1, c, acc => fun hn hf hg hb => by
   rw [qcc, qcx]
   have ha := ih c hn hb
   have e1 := (hm c).em
   have hmo : qb1 (rp c).1 = ((qf (rp c).1 [59]).1, (qf (rp c).1 [59]).2 && !isK (qf (rp c).1 [59]).1 [125]) := rfl
   by_cases hs : (rp c).2.2 = true
   ·rw [if_pos hs, q2u ha hs, ← qpw ha, hmo]
    by_cases ht : ((qf (rp c).1 [59]).2 && !isK (qf (rp c).1 [59]).1 [125]) = true
    ·rw [if_pos ht, if_pos ht]
     have h1 := hl c hs
     have h2 := (qk (rp c).1 [59]).2.1
     have h3 : em (qf (rp c).1 [59]).1 < em (rp c).1 := qjk (c := (rp c).1) ht
     have h4 := (hp c).em
     exact qsz hp hm hl ih f g _ _ (hn.mon ((hp c).trans (qk _ _))) (by omega) (by omega) (by omega)
    ·rw [if_neg ht, if_neg ht]
     refine ⟨rfl, fun _ => rfl, fun h => qdp h⟩
   ·rw [if_neg hs]
    have h3 := q15 ha (by simpa using hs)
    rw [← qpw ha]
    unfold qb1
    rw [qe2 h3, Bool.false_and, if_neg (by simp)]
    simp only
    rw [qbu h3]
    exact ⟨rfl, (fun h => by cases h), fun _ => h3⟩
theorem quz {rp : K → R3} {rr : K → K × N} {b : Nat} (hp : ∀ c, Mon c (rp c).1) (hm : ∀ c, Mon c (rr c).1) (hl : ∀ c, (rp c).2.2 = true → rest (rp c).1 < rest c) (hx : ∀ c : K, c.err ≠ 0 → (rr c).1 = c) (ih : ∀ c, NoEnd c → em c < b → qd6 (toO (rp c)) (rr c))
 {c : K} (hn : NoEnd c) (hr : em c < b) : (qbp rp c).1 = (qi (qg0 rr (qi c [123]).1).1 [125]).1 ∧ ((qbp rp c).2.2 = true → (qbp rp c).2.1 = (qg0 rr (qi c [123]).1).2) ∧ ((qbp rp c).2.2 = false → (qbp rp c).1.err ≠ 0) := by
 unfold qbp qg0
 have e1 := (qd c [123]).em
 by_cases hs : (qi c [123]).2 = true
 ·rw [if_pos hs]
  exact qsz hp hm hl ih _ _ _ _ (hn.mon (qd c _)) (Nat.lt_succ_self _) (by omega) (by omega)
 ·rw [if_neg hs]
  have h3 := qdp (c := c) (x := [123]) (by simpa using hs)
  have h4 : (qcx rr (em (qi c [123]).1 + 2) (qi c [123]).1 []).1 = (qi c [123]).1 := by
   rw [qcx]
   unfold qb1
   rw [hx _ h3, qe2 h3, Bool.false_and, if_neg (by simp)]
  rw [h4, qbu h3]
  exact ⟨rfl, (fun h => by cases h), fun _ => h3⟩
section
variable {rp : K → K × Option N} {rr : K → K × N} {b : Nat} (hx : ∀ c : K, c.err ≠ 0 → (rr c).1 = c) (ih : ∀ c, NoEnd c → em c < b → qd6 (rp c) (rr c)) (hp : ∀ c, Mon c (rp c).1) (hm : ∀ c, Mon c (rr c).1)
include hx ih hp hm
theorem q5r (p : Int) {c : K} (hn : NoEnd c) (hr : em c < b) : qd6 (toO (qjd rp p c)) (qms rr p c) := by
 have hl := quz (b := b) (rp := fun c => ofO (qb8 rp c)) (rr := qdz rr) (fun c => qfs hp c) (qih hm) (fun c h => qks hp h) (fun c h => qzp hx h) (fun c h1 h2 => by rw [qbml]; exact qr4 hx ih h1 h2) hn hr
 have hml := qgt (rd := fun c => ofO (qb8 rp c)) (fun c => qfs hp c) c
 unfold qjd qms letB letC qz7
 generalize qbp (fun c => ofO (qb8 rp c)) c = L at *
 obtain ⟨d, l, ok⟩ := L
 simp only at hl hml ⊢
 rw [← hl.1]
 have e1 := hml.em
 have e2 := (qd d [105, 110]).em
 cases ok with
 | false =>
   have h3 := hl.2.2 rfl
   rw [if_neg (by simp), qbu h3, hx _ h3]
   exact qfj rfl (fun h => by cases h) (fun _ => h3)
 | true =>
   rw [if_pos rfl, hl.2.1 rfl]
   by_cases hw : (qi d [105, 110]).2 = true
   ·rw [if_pos hw]
    have ha := ih (qi d [105, 110]).1 (hn.mon (hml.trans (qd _ _))) (by omega)
    refine qfj ha.1 (fun h => ?_) (fun h => qi0 ha (by simpa using h))
    simp only
    rw [qiy ha h]
   ·rw [if_neg hw]
    have h3 := qdp (c := d) (x := [105, 110]) (by simpa using hw)
    exact qfj (hx _ h3).symm (fun h => by cases h) (fun _ => h3)
omit hp hm in
theorem q5n {c : K} (hn : NoEnd c) (hr : em c < b) : qd6 (toO (qfg rp c)) (qgs rr c) := by
 have hpa := q2d (rest c + 2) c (by have := qgo c; omega)
 have hmp := qe0 (rest c + 2) c
 unfold qfg qgs altB altC qwo
 generalize qcz (rest c + 2) c = q at *
 have e1 := hmp.em
 have e2 := (qd q.1 [45, 62]).em
 rw [← hpa.1]
 by_cases hs : q.2.isSome = true
 ·rw [if_pos hs, qiy hpa hs]
  by_cases hw : (qi q.1 [45, 62]).2 = true
  ·rw [if_pos hw]
   have ha := ih (qi q.1 [45, 62]).1 (hn.mon (hmp.trans (qd _ _))) (by omega)
   refine qfj ha.1 (fun h => ?_) (fun h => qi0 ha (by simpa using h))
   simp only
   rw [qiy ha h]
  ·rw [if_neg hw]
   have h3 := qdp (c := q.1) (x := [45, 62]) (by simpa using hw)
   exact qfj (hx _ h3).symm (fun h => by cases h) (fun _ => h3)
 ·rw [if_neg hs]
  have h3 := qi0 hpa hs
  rw [qbu h3, hx _ h3]
  exact qfj rfl (fun h => by cases h) (fun _ => h3)
omit ih hp hm in
theorem qrn {c : K} (h : c.err ≠ 0) : (qgs rr c).1 = c := by
 unfold qgs qwo
 rw [qzw _ h]
 simp only
 rw [qbu h, hx _ h]
theorem q0p (p : Int) {c : K} (hn : NoEnd c) (hr : em c < b) : qd6 (toO (qgr rp p c)) (qjy rr p c) := by
 have hc := ih c hn hr
 have hmc := hp c
 unfold qgr qjy q35 q46 qv3
 generalize rp c = q at *
 have e1 := hmc.em
 have e2 := (qd q.1 [111, 102]).em
 rw [← hc.1]
 have herr : ∀ d : K, d.err ≠ 0 → (qi (qg0 (qgs rr) (qi (qi d [111, 102]).1 [123]).1).1 [125]).1 = d := fun d h3 => by
  have h4 : (qg0 (qgs rr) d).1 = d := by
   unfold qg0
   rw [qcx]
   unfold qb1
   rw [qrn hx h3, qe2 h3, Bool.false_and, if_neg (by simp)]
  rw [qbu h3, qbu h3, h4, qbu h3]
 by_cases hs : q.2.isSome = true
 ·rw [if_pos hs, qiy hc hs]
  by_cases hw : (qi q.1 [111, 102]).2 = true
  ·rw [if_pos hw]
   have hl := quz (b := b) (rp := qfg rp) (rr := qgs rr) (fun c => qlt hp c) (qmk hm) (fun c h => qss hp h) (fun c h => qrn hx h) (fun c h1 h2 => q5n hx ih h1 h2) (hn.mon (hmc.trans (qd q.1 [111, 102]))) (by omega)
   exact qfj hl.1 (fun h => by simp only; rw [hl.2.1 h]) (fun h => hl.2.2 h)
  ·rw [if_neg hw]
   have h3 := qdp (c := q.1) (x := [111, 102]) (by simpa using hw)
   refine qfj ?_ (fun h => by cases h) (fun _ => h3)
   have := herr _ h3
   rw [qbu h3] at this
   exact this.symm
 ·rw [if_neg hs]
  have h3 := qi0 hc hs
  exact qfj (herr _ h3).symm (fun h => by cases h) (fun _ => h3)
omit hm in
theorem q5x (p : Int) {c : K} (hn : NoEnd c) (hr : em c < b) : qd6 (toO (qeq rp p ifsW c [])) (qmg rr p c) := by
 have h1 := ih c hn hr
 have m1 := hp c
 unfold ifsW qmg q80
 rw [qeq, show ifsK c [] = (c, true) from rfl, if_pos rfl]
 simp only
 generalize rp c = q1 at *
 have e1 := m1.em
 have e2 := (qd q1.1 [116, 104, 101, 110]).em
 rw [← h1.1]
 have herr2 : ∀ (d : K) (a bb : K × N), d.err ≠ 0 → bb.1 = d → (qub rr p a bb).1 = d := fun d a bb h3 hb => by
  unfold qub q2w
  simp only
  rw [hb, qbu h3, hx _ h3]
 have herr1 : ∀ (d : K) (a : K × N), d.err ≠ 0 → (qub rr p a (rr (qi d [116, 104, 101, 110]).1)).1 = d := fun d a h3 => herr2 d a _ h3 (by rw [qbu h3, hx _ h3])
 by_cases s1 : q1.2.isSome = true
 ·rw [if_pos s1, qiy h1 s1]
  rw [qeq, show ifsK q1.1 [116, 104, 101, 110] = qi q1.1 [116, 104, 101, 110] from if_neg (by simp)]
  by_cases w2 : (qi q1.1 [116, 104, 101, 110]).2 = true
  ·rw [if_pos w2]
   have h2 := ih (qi q1.1 [116, 104, 101, 110]).1 (hn.mon (m1.trans (qd _ _))) (by omega)
   have m2 := hp (qi q1.1 [116, 104, 101, 110]).1
   generalize rp (qi q1.1 [116, 104, 101, 110]).1 = q2 at *
   have e3 := m2.em
   have e4 := (qd q2.1 [101, 108, 115, 101]).em
   by_cases s2 : q2.2.isSome = true
   ·rw [if_pos s2, qiy h2 s2]
    rw [qeq, show ifsK q2.1 [101, 108, 115, 101] = qi q2.1 [101, 108, 115, 101] from if_neg (by simp)]
    unfold qub q2w
    rw [← h2.1]
    by_cases w3 : (qi q2.1 [101, 108, 115, 101]).2 = true
    ·rw [if_pos w3]
     have h4 := ih (qi q2.1 [101, 108, 115, 101]).1 (hn.mon (((m1.trans (qd _ _)).trans m2).trans (qd _ _))) (by omega)
     generalize rp (qi q2.1 [101, 108, 115, 101]).1 = q3 at *
     by_cases s3 : q3.2.isSome = true
     ·rw [if_pos s3, qiy h4 s3, qeq]
      exact qfj h4.1 (fun _ => rfl) (fun h => by cases h)
     ·rw [if_neg s3]
      exact qfj h4.1 (fun h => by cases h) (fun _ => qi0 h4 s3)
    ·rw [if_neg w3]
     have h3 := qdp (c := q2.1) (x := [101, 108, 115, 101]) (by simpa using w3)
     exact qfj (hx _ h3).symm (fun h => by cases h) (fun _ => h3)
   ·rw [if_neg s2]
    have h3 := qi0 h2 s2
    exact qfj (herr2 _ _ _ h3 h2.1.symm).symm (fun h => by cases h) (fun _ => h3)
  ·rw [if_neg w2]
   have h3 := qdp (c := q1.1) (x := [116, 104, 101, 110]) (by simpa using w2)
   exact qfj (herr2 _ _ _ h3 (hx _ h3)).symm (fun h => by cases h) (fun _ => h3)
 ·rw [if_neg s1]
  have h3 := qi0 h1 s1
  exact qfj (herr1 _ _ h3).symm (fun h => by cases h) (fun _ => h3)
theorem q1c {c : K} (hn : NoEnd c) (hr : em c ≤ b) : qd6 (toO (qe1 rp c)) (qfp rr c) := by
 unfold qe1 qfp
 by_cases t1 : (qf c [92]).2 = true
 ·rw [if_pos t1, if_pos t1]
  have e1 := qdx t1
  unfold qmu
  by_cases hk : (qq (qf c [92]).1).kind = 1
  ·rw [if_pos hk, if_pos hk]
   exact qmc hx ih _ _ _ _ (hn.mon (qk _ _)) (Nat.lt_succ_self _) (Nat.lt_succ_self _) (by omega)
  ·rw [if_neg hk, if_neg hk]
   exact qfj rfl (fun h => by cases h) (fun _ => qg1 _)
 ·rw [if_neg t1, if_neg t1]
  by_cases t2 : (qf c [108, 101, 116]).2 = true
  ·rw [if_pos t2, if_pos t2]
   have e1 := qdx t2
   exact q5r hx ih hp hm _ (hn.mon (qk _ _)) (by omega)
  ·rw [if_neg t2, if_neg t2]
   by_cases t3 : (qf c [99, 97, 115, 101]).2 = true
   ·rw [if_pos t3, if_pos t3]
    have e1 := qdx t3
    exact q0p hx ih hp hm _ (hn.mon (qk _ _)) (by omega)
   ·rw [if_neg t3, if_neg t3]
    by_cases t4 : (qf c [105, 102]).2 = true
    ·rw [if_pos t4, if_pos t4]
     have e1 := qdx t4
     exact q5x hx ih hp _ (hn.mon (qk _ _)) (by omega)
    ·rw [if_neg t4, if_neg t4]
     exact q4r hx ih hp hm hn hr
end
theorem qo6 {rr : K → K × N} {c : K} (h : c.err ≠ 0) : (qfp rr c).1 = c := by
 unfold qfp
 rw [qe2 h, qe2 h, qe2 h, qe2 h]
 simp only [Bool.false_eq_true, if_false]
 unfold qn5
 rw [qyx h, qla h]
theorem qtq (f : Nat) {c : K} (h : c.err ≠ 0) : (qhb f c).1 = c := by
 cases f with
 | zero => rfl
 | succ f =>
   rw [qhb, qi6 h]
   simp only
   rw [qo6 h, qcn h]
theorem qzl : ∀ (f : Nat) (c : K), NoEnd c → em c < f → qd6 (qiw f c) (qhb f c)
 | 0, _ => fun _ h => by omega
 | f + 1, c => fun hn hf => by
   have hx : ∀ c : K, c.err ≠ 0 → (qhb f c).1 = c := fun c h => qtq f h
   have e1 := (qm c).em
   rw [qiw, qhb]
   by_cases he : (qc c).2 = true
   ·rw [if_pos he]
    have ha := q1c hx (qzl f) (qi3 f) (qlp f) (c := (qc c).1) (hn.mon (qm c)) (by omega)
    refine ⟨?_, ha.2.1, fun h => ?_⟩
    ·simp only
     rw [← qpw ha]
    ·have h3 : (qe1 (qiw f) (qc c).1).1.err ≠ 0 := ha.2.2 h
     simp only
     rw [qcn h3]
     exact h3
   ·rw [if_neg he]
    have h3 := qg5 (c := c) (by simpa using he)
    refine ⟨?_, (fun n h => by cases h), fun _ => h3⟩
    simp only
    rw [qo6 h3, qcn h3]
end Go.Proofs.YtfjbmjplnmaclaaGreat
