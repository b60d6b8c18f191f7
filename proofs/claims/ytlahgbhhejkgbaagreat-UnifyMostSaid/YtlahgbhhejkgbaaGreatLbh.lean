/- Texts of this proof, joined. -/
import Derived.Test.YtlahgbhhejkgbaaGreatLat
import Derived.Test.YtlahgbhhejkgbaaGreatLai
import Derived.Test.YtlahgbhhejkgbaaGreatLbe
import Derived.Test.YtlahgbhhejkgbaaGreatLbf
import Derived.Test.YtlahgbhhejkgbaaGreatLbg

/- terms: whether a variable stands in a type; functions' types -/
set_option maxRecDepth 4000
namespace Go.Proofs.YtlahgbhhejkgbaaGreat
open Go Go.RowKit Go.V
set_option linter.unusedVariables false
set_option linter.unusedSimpArgs false

def hasN (v : Int) (t : Ty) : Bool := decide (t.con = []) && decide (t.var = v)
def qtt (v : Int) (u : Unit) (t : Ty) (_ : Int) : Unit × Bool := (u, !hasN v t)
theorem has1 (v : Int) (t : Ty) (k : Int) : VM Tryz.prog 109 (.blk [.int .i64 v]) (.blk [.int .i64 v]) [encY t, .int .i64 k, .ptr 0 0] (.bool (!hasN v t)) := by
 refine qe c0cy 1 (by simp) (by simp) ?_
 repeat' (first | refine vs_ ?_ | ((first | refine vr_ ?_ | (refine cs_ ?_ ?_ <;> intro hc) | refine cj_ ?_ | fail) <;> (try refine ev_ ?_)) | with_reducible exact ti_)
 all_goals simp_all [hasN]
mutual
theorem qbny (v : Int) : ∀ (t : Ty) (k : Int), (qb9 (qtt v) t () k).2 = !decide (v ∈ varY t)
 | .mk c x l, k => by
   rw [qb9, varY]
   by_cases hc : c = []
   ·by_cases hx : x = v
    ·rw [if_neg (by simp [qtt, hasN, Ty.con, Ty.var, hc, hx])]; simp [hc, hx]
    ·rw [if_pos (by simp [qtt, hasN, Ty.con, Ty.var, hc, hx]), qwe v l]; simp [hc, Ne.symm hx]
   ·rw [if_pos (by simp [qtt, hasN, Ty.con, hc]), qwe v l]; simp [hc]
theorem qwe (v : Int) : ∀ (l : List Ty) (u : Unit) (k : Int), (qbl (qtt v) l u k).2 = !decide (v ∈ qbu l)
 | [], u, k => by rw [qbl, qbu]; simp
 | x :: r, u, k => by
   have h1 := qbny v x k
   rw [qbl, qbu]
   cases u
   by_cases hv : v ∈ varY x
   ·rw [if_neg (by rw [h1]; simp [hv])]; simp [hv]
   ·rw [if_pos (by rw [h1]; simp [hv]), qwe v r]; simp [hv]
end
theorem qoz (t : Ty) (v : Int) : qn Tryz.prog 90 [encY t, .int .i64 v] (.bool (decide (v ∈ varY t))) := by
 refine qf c0cz (by simp) (by simp only [go_sem]) rfl fun hw => ?_
 have hwalk := qhs (S := Unit) (st := fun _ => .blk [.int .i64 v]) (step := qtt v) (f := 109) (ok := fun _ _ => True) (fun _ => rfl) (fun _ _ _ _ _ => trivial) (fun _ _ _ => trivial) (fun u t k _ => has1 v t k) t () 1 trivial
 rw [qbny] at hwalk
 repeat' (first | refine vs_ ?_ | ((first | refine vr_ ?_ | refine qbp 1 hwalk ?_ | (refine cs_ ?_ ?_ <;> intro hc) | refine cj_ ?_ | fail) <;> (try refine ev_ ?_)) | with_reducible exact ti_)
 rw [Bool.not_not]

/-! functions' types -/
section
variable {S : Type} {l : List Ty} {m i p : Nat} {hs : S → List Ent} {f : Ty → S → S} (hlen : ∀ s, (hs s).length = m) (hbd : ∀ s, (hs s).all (Ent.bd m) = true) (hi : i < m) (hpm : p < m) (hp : ∀ s, ent (hs s) p = .blk [.sl 3 (qq l)])
 (app : ∀ s k n (Q : List Ent → VO → Prop), Q (hs (f n s)) (.val (.bool true)) → VApp Tryz.prog (hs s) (.opq i) [.int .i64 k, encY n] Q)
include hlen hbd hi hpm hp app
end
/-! what is split -/

theorem qkg {l : List Pr} (h : fewR l = true) : qn Tryz.prog 17 [.sl 4 (qw l)] (.int .i64 1) := qfk (qbpm l) (by rw [h]; rfl)
theorem q2w {l : List Pr} (h : fewR l = false) : qn Tryz.prog 17 [.sl 4 (qw l)] (.int .i64 0) := qfk (qbpm l) (by rw [h]; rfl)
theorem qxx {l : List Ty} (h : qeu l = true) : qn Tryz.prog 22 [.sl 3 (qq l)] (.int .i64 1) := qfk (q54 l) (by rw [h]; rfl)
theorem q2a {l : List Ty} (h : qeu l = false) : qn Tryz.prog 22 [.sl 3 (qq l)] (.int .i64 0) := qfk (q54 l) (by rw [h]; rfl)
theorem qnw {t : Ty} (h : qeu [t] = true) : szY t ≤ 20000 ∧ dpY t ≤ 300 := by
 have := qzl (l := [t]) (by unfold maxLen; simp) h
 have h1 := qhu (l := [t]) (x := t) (by simp)
 have h2 := qki (l := [t]) (x := t) (by simp)
 omega
theorem q2b {s : List Pr} (h : okS s) {t : Ty} (he : (appR s t).2 = 0) : szY (appR s t).1 ≤ 20000 ∧ dpY (appR s t).1 ≤ 300 := by
 obtain ⟨_, q2, q3⟩ := qbc h he
 rw [q3]
 have := (ql _).1 q2
 omega
set_option maxRecDepth 4000

set_option maxRecDepth 4000

set_option maxRecDepth 4000

theorem qdz {l : List Ty} (h : ∀ x ∈ l, szY x ≤ 20000 ∧ dpY x ≤ 300) : qn Tryz.prog 27 [.sl 3 (qq l)] (.bool (l.all qc)) := by
 refine qf c0n (by simp) (by simp only [go_sem]) rfl fun hw => ?_
 have hl : l.length ≤ maxLen := by have := hw.1.1; rwa [qbg] at this
 repeat' (first | refine vs_ ?_ | ((first | refine vr_ ?_ | (refine cs_ ?_ ?_ <;> intro hc) | refine cj_ ?_ | simp (disch := omega) only [encs_getN, qb]) <;> (try refine ev_ ?_)) | with_reducible exact ti_)
 refine qp (S := Nat) (fun i => i ≤ l.length ∧ (l.take i).all qc = true) (fun i => (⟨[(5, .sl 3 (qq l)), (6, .int .i64 l.length), (7, .int .i64 i)], []⟩, [])) (fun i => l.length - i) ?_ fun i hi => ?_
 ·refine qm 0 [] ⟨Nat.zero_le _, rfl⟩ rfl (by simp) ?_ ?_ ?_ <;> (try refine ev_ ?_) <;> (try with_reducible exact ti_) <;> (try simp (disch := omega) only [qb, and_true, true_and])
 ·obtain ⟨hi, ha⟩ := hi
  by_cases hlt : i < l.length
  ·have hg := q8 hlt
   obtain ⟨m1, m2⟩ := h _ (qbs hlt)
   have hL := qcr m1 m2
   have hnx : (l.take (i + 1)).all qc = qc (l.getD i Y0) := by
    have h1 : l.take (i + 1) = l.take i ++ [l.getD i Y0] := by
     rw [List.take_add_one, List.getD_eq_getElem?_getD, List.getElem?_eq_getElem hlt]; rfl
    rw [h1, List.all_append, ha]; simp
   cases hq : qc (l.getD i Y0) with
   | true =>
     rw [hq] at hL hnx
     repeat' (first | refine vs_ ?_ | ((first | refine vr_ ?_ | fail) <;> (try simp (disch := first | omega | (simp only [List.length_set, List.length_append, List.length_cons, List.length_nil]; done) | (simp only [List.length_set, List.length_append, List.length_cons, List.length_nil]; omega)) only [hg, qb, go_sem, ↓reduceIte])) | ((first | simp (disch := omega) only [hg] | (refine cs_ ?_ ?_ <;> intro hc) | refine cj_ ?_ | simp (disch := omega) only [encs_getN, qb] | refine qa hL fun _ => ?_) <;> (try refine ev_ ?_)) | with_reducible exact ti_)
     all_goals try (exfalso; omega)
     refine qm (i + 1) [] ⟨⟨by omega, hnx⟩, by omega⟩ rfl (by simp) ?_ ?_ ?_ <;> (try refine ev_ ?_) <;> (try with_reducible exact ti_) <;> (try simp (disch := omega) only [qb, and_true, true_and])
   | false =>
     rw [hq] at hL
     have hno : l.all qc = false := by
      cases ht : l.all qc with
      | false => rfl
      | true => rw [List.all_eq_true.1 ht _ (qbs hlt)] at hq; cases hq
     rw [hno]
     repeat' (first | refine vs_ ?_ | ((first | refine vr_ ?_ | fail) <;> (try simp (disch := first | omega | (simp only [List.length_set, List.length_append, List.length_cons, List.length_nil]; done) | (simp only [List.length_set, List.length_append, List.length_cons, List.length_nil]; omega)) only [hg, qb, go_sem, ↓reduceIte])) | ((first | simp (disch := omega) only [hg] | (refine cs_ ?_ ?_ <;> intro hc) | refine cj_ ?_ | simp (disch := omega) only [encs_getN, qb] | refine qa hL fun _ => ?_) <;> (try refine ev_ ?_)) | with_reducible exact ti_)
     all_goals try (exfalso; omega)
  ·have hie : i = l.length := by omega
   subst hie
   rw [List.take_length] at ha
   rw [ha]
   repeat' (first | refine vs_ ?_ | ((first | refine vr_ ?_ | (refine cs_ ?_ ?_ <;> intro hc) | refine cj_ ?_ | simp (disch := omega) only [encs_getN, qb]) <;> (try refine ev_ ?_)) | with_reducible exact ti_)
   all_goals try (exfalso; omega)
def zW : AV := .agg [.str [], .int .i64 0, .nils, .str [], .int .i64 0, .nils]
theorem qzr {α : Type} : ∀ (A : List α) (k : Nat) (z x : α), (A ++ List.replicate (k + 1) z).set A.length x = (A ++ [x]) ++ List.replicate k z
 | [], k, z, x => rfl
 | a :: A, k, z, x => by
   have := qzr A k z x
   simp only [List.cons_append, List.length_cons, List.set_cons_succ] at this ⊢
   rw [this]
def prE (l m : List Ty) (i : Nat) : List AV := qbi ((l.zip m).take i) ++ List.replicate (l.length - i) zW
theorem q9k {l m : List Ty} (h : l.length = m.length) {i : Nat} (hi : i ≤ l.length) : (prE l m i).length = l.length := by
 rw [prE, List.length_append, List.length_replicate, qdp, List.length_take, List.length_zip]; omega
theorem q0i {l m : List Ty} (h : l.length = m.length) {i : Nat} (hi : i < l.length) : (l.zip m).getD i W0 = (l.getD i Y0, m.getD i Y0) := by
 have hm : i < m.length := by omega
 rw [List.getD_eq_getElem?_getD, List.getElem?_eq_getElem (by rw [List.length_zip]; omega), List.getElem_zip, List.getD_eq_getElem?_getD, List.getElem?_eq_getElem hi, List.getD_eq_getElem?_getD, List.getElem?_eq_getElem hm]; rfl
theorem qus {l : List (Ty × Ty)} {i : Nat} (h : i < l.length) : l.take (i + 1) = l.take i ++ [l.getD i W0] := by
 rw [List.take_add_one, List.getD_eq_getElem?_getD, List.getElem?_eq_getElem h]; rfl
theorem qbcr {l m : List Ty} (h : l.length = m.length) {i : Nat} (hi : i < l.length) : (prE l m i).set i (encW (l.getD i Y0, m.getD i Y0)) = prE l m (i + 1) := by
 have hz : i < (l.zip m).length := by rw [List.length_zip]; omega
 have hk : (qbi ((l.zip m).take i)).length = i := by rw [qdp, List.length_take]; omega
 have := qzr (qbi ((l.zip m).take i)) (l.length - (i + 1)) zW (encW (l.getD i Y0, m.getD i Y0))
 rw [hk, show l.length - (i + 1) + 1 = l.length - i by omega] at this
 rw [prE, this, prE, qus hz, q0i h hi, qe9]
theorem q8p {l m : List Ty} (h : l.length = m.length) : prE l m l.length = qbi (l.zip m) := by
 rw [prE, Nat.sub_self, List.take_of_length_le (by rw [List.length_zip]; omega)]; simp
theorem qrf (l : List (Ty × Ty)) : (qbi l).all (fun e => (e.isAgg || e.leaf) && e.cells.all AV.leaf) = true := by
 rw [qbi, List.all_map, List.all_eq_true]
 intro x _
 rfl
theorem qyy (k : Nat) (l m : List Ty) (i : Nat) : AV.bds k (prE l m i) = true := by
 rw [prE, qdb, List.all_append, ← qdb, qb1, Bool.true_and, List.all_replicate]
 simp [zW, AV.bd, AV.bds]
theorem qww (σ : Nat → Nat) (l m : List Ty) (i : Nat) : AV.rens σ (prE l m i) = prE l m i := qr (m := 0) (fun i hi => by omega) _ (qyy 0 l m i)
set_option maxHeartbeats 1000000 in
theorem qkd {l m : List Ty} (h : l.length = m.length) (hl : l.length ≤ 100000) : qn Tryz.prog 32 [.sl 3 (qq l), .sl 3 (qq m)] (.sl 6 (qbi (l.zip m))) := by
 refine qf c0o (by simp) (by simp only [go_sem]) (by simp only [AV.bd, qb1]) fun hw => ?_
 repeat' (first | refine vs_ ?_ | ((first | refine vr_ ?_ | (refine cs_ ?_ ?_ <;> intro hc) | refine cj_ ?_ | simp (disch := omega) only [encs_getN, qb]) <;> (try refine ev_ ?_)) | with_reducible exact ti_)
 refine ⟨⟨by omega, by unfold maxLen; omega⟩, ?_⟩
 repeat' (first | refine vs_ ?_ | ((first | refine vr_ ?_ | (refine cs_ ?_ ?_ <;> intro hc) | refine cj_ ?_ | simp (disch := omega) only [encs_getN, qb]) <;> (try refine ev_ ?_)) | with_reducible exact ti_)
 refine qp (S := Nat) (fun i => i ≤ l.length) (fun i => (⟨[(0, .sl 3 (qq l)), (1, .sl 3 (qq m)), (5, .row 0 l.length), (11, .int .i64 l.length), (12, .int .i64 i)], []⟩, [.mrow 6 (prE l m i)])) (fun i => l.length - i) ?_ fun i hi => ?_
 ·refine qm 0 [0] (Nat.zero_le _) rfl (by simp) ?_ ?_ ?_ <;> (try refine ev_ ?_) <;> (try with_reducible exact ti_) <;> (try simp (disch := omega) only [qb, and_true, true_and])
  exact ⟨qyy _ _ _ _, by rw [qww, prE, List.take_zero, Nat.sub_zero]; rfl⟩
 ·have hpl := q9k h hi
  by_cases hlt : i < l.length
  ·have hg := q8 hlt
   have hg' := q8 (l := m) (i := i) (by omega)
   have hset := qbcr h hlt
   repeat' (first | refine vs_ ?_ | ((first | refine vr_ ?_ | fail) <;> (try simp (disch := first | omega | (simp only [List.length_set, List.length_append, List.length_cons, List.length_nil]; done) | (simp only [List.length_set, List.length_append, List.length_cons, List.length_nil]; omega)) only [hg, hg', qb, hpl, go_sem, ↓reduceIte])) | ((first | simp (disch := omega) only [hg] | simp (disch := omega) only [hg'] | (refine cs_ ?_ ?_ <;> intro hc) | refine cj_ ?_ | simp (disch := omega) only [encs_getN, qb]) <;> (try refine ev_ ?_)) | with_reducible exact ti_)
   all_goals try (exfalso; omega)
   refine qm (i + 1) [0] ⟨by omega, by omega⟩ rfl (by simp) ?_ ?_ ?_ <;> (try refine ev_ ?_) <;> (try with_reducible exact ti_) <;> (try simp (disch := omega) only [qb, and_true, true_and])
   ·exact ⟨qyy _ _ _ _, by rw [qww, ← hset]; rfl⟩
   ·rw [qt (by omega) (by omega), Int.natCast_add]; rfl
  ·have hie : i = l.length := by omega
   subst hie
   have hend := q8p h
   rw [hend] at hpl ⊢
   refine qbrd 0 rfl (qrf _) ?_
   simp only [List.set_cons_zero]
   repeat' (first | refine vs_ ?_ | ((first | refine vr_ ?_ | fail) <;> (try simp only [hpl, go_sem, ↓reduceIte])) | ((first | (refine cs_ ?_ ?_ <;> intro hc) | refine cj_ ?_ | simp (disch := omega) only [encs_getN, qb]) <;> (try refine ev_ ?_)) | with_reducible exact ti_)
   all_goals try (exfalso; omega)
theorem qwq {s : List Pr} {v : Int} {t : Ty} (hc : t.con = []) (hv : t.var = v) : VCalls Tryz.prog 67 [subE s] [.ptr 0 0, .int .i64 v, encY t] fun H' o => H' = [subE s] ∧ o = .val (.tup [.ptr 0 0, .int .i64 0]) := by
 refine qe c0p 1 (by simp) (by simp) ?_
 repeat' (first | refine vs_ ?_ | ((first | refine vr_ ?_ | fail) <;> (try simp only [hc, hv, go_sem, ↓reduceIte])) | ((first | (refine cs_ ?_ ?_ <;> intro hc) | refine cj_ ?_ | fail) <;> (try refine ev_ ?_)) | with_reducible exact ti_)
theorem qzv {s : List Pr} (hs : okS s) (hl : s.length ≤ 40000) {v : Int} {t : Ty} (ht : qc t = true) (hn : ¬ (t.con = [] ∧ t.var = v)) (he : (bndU s v t).2 ≠ 0) : VM Tryz.prog 67 (subE s) (subE s) [.ptr 0 0, .int .i64 v, encY t] (.tup [.nilp, .int .i64 (bndU s v t).2]) := by
 have hH := qoz t v
 have hd : t.con = [] → decide (t.var = v) = false := fun hc => decide_eq_false fun hv => hn ⟨hc, hv⟩
 by_cases hv : v ∈ varY t
 ·rw [decide_eq_true hv] at hH
  rw [bndU, if_neg hn, if_pos hv]
  refine qe c0p 1 (by simp) (by simp) ?_
  repeat' (first | refine vs_ ?_ | ((first | refine vr_ ?_ | refine qa hH fun _ => ?_ | (refine cs_ ?_ ?_ <;> intro hc) | refine cj_ ?_ | fail) <;> (try refine ev_ ?_)) | with_reducible exact ti_)
  all_goals exact absurd ⟨by assumption, by assumption⟩ hn
 ·rw [decide_eq_false hv] at hH
  rw [bndU, if_neg hn, if_neg hv] at he ⊢
  have hnew : newR [⟨v, t⟩] = [⟨v, t⟩] := by
   show (setR [] v t).1 = _
   rw [setR, if_pos ht]; rfl
  obtain ⟨q, hq⟩ : ∃ q, behR s [⟨v, t⟩] = q := ⟨_, rfl⟩
  obtain ⟨r, e⟩ := q
  rw [hq] at he ⊢
  have hml : smlR [⟨v, t⟩] := qht (qdk ht)
  refine qe c0p 1 (by simp) (by simp) ?_
  repeat' (first | refine vs_ ?_ | ((first | refine vr_ ?_ | refine qa hH fun _ => ?_ | refine qx0 hml (by simp) hnew ?_ | refine qba7 0 2 hs (qdk ht) hl (by simp) (by simp) hq he ?_ | (refine cs_ ?_ ?_ <;> intro hc) | refine cj_ ?_ | fail) <;> (try refine ev_ ?_)) | with_reducible exact ti_)
  all_goals exact absurd ⟨by assumption, by assumption⟩ hn
theorem q4r {s r : List Pr} (hs : okS s) (hl : s.length ≤ 40000) {v : Int} {t : Ty} (ht : qc t = true) (hn : ¬ (t.con = [] ∧ t.var = v)) (hv : v ∉ varY t) (he : behR s [⟨v, t⟩] = (r, 0)) : VCalls Tryz.prog 67 [subE s] [.ptr 0 0, .int .i64 v, encY t] fun H' o => H' = [subE s, subE r] ∧ o = .val (.tup [.ptr 1 0, .int .i64 0]) := by
 have hH := qoz t v
 rw [decide_eq_false hv] at hH
 have hnew : newR [⟨v, t⟩] = [⟨v, t⟩] := by
  show (setR [] v t).1 = _
  rw [setR, if_pos ht]; rfl
 have hml : smlR [⟨v, t⟩] := qht (qdk ht)
 refine qe c0p 2 (by simp) (by simp) ?_
 unfold k0p
 refine qb7 (qd6 ?_)
 (refine ev_ ?_; (try with_reducible exact ti_))
 refine qe6 (S := Unit) (fun _ => True) (fun _ => (⟨[(0, .ptr 0 0), (1, .int .i64 v), (5, .ptr 1 0)], []⟩, [subE s, .blk (yc t)])) ?_ fun _ _ => ?_
 ·repeat' (first | refine vs_ ?_ | ((first | refine vr_ ?_ | refine qa hH fun _ => ?_ | (refine cs_ ?_ ?_ <;> intro hc) | refine cj_ ?_ | fail) <;> (try refine ev_ ?_)) | with_reducible exact ti_)
  ·exact absurd ⟨by assumption, by assumption⟩ hn
  all_goals (refine qm () [0, 1] trivial rfl (by simp) ?_ ?_ ?_ <;> (try refine ev_ ?_) <;> (try with_reducible exact ti_) <;> (try simp (disch := omega) only [qb, and_true, true_and]))
 refine qe6 (S := Unit) (fun _ => True) (fun _ => (⟨[(6, .ptr 1 0), (7, .int .i64 0)], []⟩, [subE s, subE r])) ?_ fun _ _ => ?_
 ·repeat' (first | refine vs_ ?_ | ((first | refine vr_ ?_ | refine qx0 hml (by simp) hnew ?_ | refine qy7 0 2 hs (qdk ht) hl (by simp) (by simp) he ?_ | (refine cs_ ?_ ?_ <;> intro hc) | refine cj_ ?_ | fail) <;> (try refine ev_ ?_)) | with_reducible exact ti_)
  refine qm () [0, 3] trivial rfl (by simp) ?_ ?_ ?_ <;> (try refine ev_ ?_) <;> (try with_reducible exact ti_) <;> (try simp (disch := omega) only [qb, and_true, true_and])
 ·repeat' (first | refine vs_ ?_ | ((first | refine vr_ ?_ | (refine cs_ ?_ ?_ <;> intro hc) | refine cj_ ?_ | fail) <;> (try refine ev_ ?_)) | with_reducible exact ti_)
section
variable {L : List Ent} {Q : List Ent → VO → Prop} {s : List Pr}
inductive BndQ (s : List Pr) (v : Int) (t : Ty) : Prop
 | same (h1 : t.con = []) (h2 : t.var = v) (h : bndU s v t = (s, 0))
 | no (h : (bndU s v t).2 ≠ 0) (h' : (bndU s v t).1 = []) (hn : ¬ (t.con = [] ∧ t.var = v))
 | new (r : List Pr) (h : behR s [⟨v, t⟩] = (r, 0)) (hn : ¬ (t.con = [] ∧ t.var = v)) (hv : v ∉ varY t) (h' : bndU s v t = (r, 0))
theorem qom {s : List Pr} (hs : okS s) (v : Int) {t : Ty} (ht : qc t = true) : BndQ s v t := by
 by_cases hn : t.con = [] ∧ t.var = v
 ·exact .same hn.1 hn.2 (by rw [bndU, if_pos hn])
 by_cases hv : v ∈ varY t
 ·have : bndU s v t = ([], 15) := by rw [bndU, if_neg hn, if_pos hv]
  exact .no (by rw [this]; decide) (by rw [this]) hn
 have h1 : bndU s v t = behR s [⟨v, t⟩] := by rw [bndU, if_neg hn, if_neg hv]
 rcases q5w hs (qdk (v := v) ht) with h0 | ⟨h0, h0'⟩
 ·exact .new (behR s [⟨v, t⟩]).1 (Prod.ext rfl h0) hn hv (by rw [h1]; exact Prod.ext rfl h0)
 ·exact .no (by rw [h1, h0]; decide) (by rw [h1, h0']) hn
theorem q5d {v : Int} {t : Ty} (h1 : t.con = []) (h2 : t.var = v) (hq : Q L (.val (.tup [.ptr 0 0, .int .i64 0]))) (he : ent L 0 = subE s := by rfl) (hl : 0 < L.length := by simp) : VApp Tryz.prog L (.fn 67 [] []) [.ptr 0 0, .int .i64 v, encY t] Q := by
 refine qbv ?_
 rw [List.nil_append, List.append_nil]
 refine qbb [0] (qwq h1 h2) (by simp) ⟨⟨hl, rfl, by rw [he]; rfl⟩, trivial⟩ (by simp only [AV.bds, AV.bd, qz, Bool.and_true]; rfl) (by simp only [AV.rens, AV.ren, qfi]; rfl) fun H1 o ho => ?_
 obtain ⟨rfl, rfl⟩ := ho
 have e1 : qdw L [0] [subE s] = L := by
  show (L.set 0 (subE s)) ++ [] = _
  rw [List.append_nil, qb4 he hl]
 rw [e1]
 exact hq
theorem qs8 {r : List Pr} (hs : okS s) (hl' : s.length ≤ 40000) {v : Int} {t : Ty} (ht : qc t = true) (hn : ¬ (t.con = [] ∧ t.var = v)) (hv : v ∉ varY t) (h : behR s [⟨v, t⟩] = (r, 0)) (hq : Q (L ++ [subE r]) (.val (.tup [.ptr L.length 0, .int .i64 0]))) (he : ent L 0 = subE s := by rfl) (hl : 0 < L.length := by simp) : VApp Tryz.prog L (.fn 67 [] []) [.ptr 0 0, .int .i64 v, encY t] Q := by
 refine qbv ?_
 rw [List.nil_append, List.append_nil]
 refine qbb [0] (q4r hs hl' ht hn hv h) (by simp) ⟨⟨hl, rfl, by rw [he]; rfl⟩, trivial⟩ (by simp only [AV.bds, AV.bd, qz, Bool.and_true]; rfl) (by simp only [AV.rens, AV.ren, qfi]; rfl) fun H1 o ho => ?_
 obtain ⟨rfl, rfl⟩ := ho
 have e1 : qdw L [0] [subE s, subE r] = L ++ [subE r] := by
  show (L.set 0 (subE s)) ++ [subE r] = _
  rw [qb4 he hl]
 rw [e1]
 show Q _ (.val (.tup [.ptr (L.length + (1 - 1)) 0, .int .i64 0]))
 exact hq
end
set_option maxRecDepth 4000

section
variable {s : List Pr} {a b A B : Ty} {bb : Bool} {L : List (Ty × Ty)}
theorem vm_A (hs : okS s) (hl : s.length ≤ 40000) (ha : qc a = true) {A : Ty} {e : Int} (hA : appR s a = (A, e)) : VM Tryz.prog 19 (subE s) (subE s) [.ptr 0 0, encY a] (.tup [encY A, .int .i64 e]) := by
 have z := (ql _).1 ha
 have h := qgh hs (by omega) (show szY a ≤ 20000 by omega) (by omega)
 rw [hA] at h
 exact h
theorem bY (t : Ty) : AV.bds 0 [encY t] = true := by simp only [AV.bds, qz, Bool.and_true]
theorem bYi (t : Ty) (e : Int) : AV.bd 0 (.tup [encY t, .int .i64 e]) = true := by simp only [AV.bds, AV.bd, qz, Bool.and_true]
theorem qbe2 (hs : okS s) (hl : s.length ≤ 40000) (ha : qc a = true) {e : Int} (hA : appR s a = (A, e)) (he : e ≠ 0) : VCalls Tryz.prog 46 [subE s, stkE bb L] [.ptr 0 0, encW (a, b), .ptr 1 0] fun H' o => H' = [subE s, stkE bb L] ∧ o = .val (.tup [.nilp, .int .i64 e]) := by
 have f1 := vm_A hs hl ha hA
 have hd : decide (e = 0) = false := decide_eq_false he
 refine qe c0m 2 (by simp) (by simp) ?_
 repeat' (first | refine vs_ ?_ | ((first | refine vr_ ?_ | fail) <;> (try simp only [hd, decide_false, go_sem, ↓reduceIte])) | ((first | (refine cs_ ?_ ?_ <;> intro hc) | refine cj_ ?_ | fail | refine qu 0 f1 (bY _) (bYi _ _) ?_) <;> (try refine ev_ ?_)) | with_reducible exact ti_)
theorem qbcz (hs : okS s) (hl : s.length ≤ 40000) (ha : qc a = true) (hb : qc b = true) {e : Int} (hA : appR s a = (A, 0)) (hB : appR s b = (B, e)) (he : e ≠ 0) : VCalls Tryz.prog 46 [subE s, stkE bb L] [.ptr 0 0, encW (a, b), .ptr 1 0] fun H' o => H' = [subE s, stkE bb L] ∧ o = .val (.tup [.nilp, .int .i64 e]) := by
 have f1 := vm_A hs hl ha hA
 have f2 := vm_A hs hl hb hB
 have hd : decide (e = 0) = false := decide_eq_false he
 refine qe c0m 2 (by simp) (by simp) ?_
 repeat' (first | refine vs_ ?_ | ((first | refine vr_ ?_ | fail) <;> (try simp only [hd, decide_false, go_sem, ↓reduceIte])) | ((first | (refine cs_ ?_ ?_ <;> intro hc) | refine cj_ ?_ | fail | refine qu 0 f1 (bY _) (bYi _ _) ?_ | refine qu 0 f2 (bY _) (bYi _ _) ?_) <;> (try refine ev_ ?_)) | with_reducible exact ti_)
theorem qza (hs : okS s) (hl : s.length ≤ 40000) (ha : qc a = true) (hb : qc b = true) (hA : appR s a = (A, 0)) (hB : appR s b = (B, 0)) (c1 : A.con ≠ []) (c2 : B.con ≠ []) (c3 : A.con = B.con) (c4 : A.args.length = B.args.length) (hAl : A.args.length ≤ 5000) (hLl : L.length ≤ 50000000) (hbb : bb = false → L = []) :
 VCalls Tryz.prog 46 [subE s, stkE bb L] [.ptr 0 0, encW (a, b), .ptr 1 0] fun H' o => H' = [subE s, stkE (bb || decide (A.args.zip B.args ≠ [])) (L ++ (A.args.zip B.args).reverse)] ∧ o = .val (.tup [.ptr 0 0, .int .i64 0]) := by
 have f1 := vm_A hs hl ha hA
 have f2 := vm_A hs hl hb hB
 have fp := qkd c4 (by omega)
 have fq := qtc bb L (A.args.zip B.args) hbb (by rw [List.length_zip]; omega)
 have hbw : AV.bds 0 [.sl 6 (qbi (A.args.zip B.args))] = true := by simp only [AV.bds, AV.bd, qb1, Bool.and_true]
 refine qe c0m 2 (by simp) (by simp) ?_
 repeat' (first | refine vs_ ?_ | ((first | refine vr_ ?_ | fail) <;> (try simp only [c1, c2, go_sem, ↓reduceIte])) | ((first | (refine cs_ ?_ ?_ <;> intro hc) | refine cj_ ?_ | fail | refine qu 0 f1 (bY _) (bYi _ _) ?_ | refine qu 0 f2 (bY _) (bYi _ _) ?_ | refine qa fp fun _ => ?_ | refine qu 1 fq hbw rfl ?_) <;> (try refine ev_ ?_)) | with_reducible exact ti_)
 ·exact absurd c3 (by assumption)
 ·exfalso; omega
theorem q46 (hs : okS s) (hl : s.length ≤ 40000) (ha : qc a = true) (hb : qc b = true) (hA : appR s a = (A, 0)) (hB : appR s b = (B, 0)) (c1 : A.con ≠ []) (c2 : B.con ≠ []) (c3 : ¬ (A.con = B.con ∧ A.args.length = B.args.length)) :
 VCalls Tryz.prog 46 [subE s, stkE bb L] [.ptr 0 0, encW (a, b), .ptr 1 0] fun H' o => H' = [subE s, stkE bb L] ∧ o = .val (.tup [.nilp, .int .i64 14]) := by
 have f1 := vm_A hs hl ha hA
 have f2 := vm_A hs hl hb hB
 refine qe c0m 2 (by simp) (by simp) ?_
 repeat' (first | refine vs_ ?_ | ((first | refine vr_ ?_ | fail) <;> (try simp only [c1, c2, go_sem, ↓reduceIte])) | ((first | (refine cs_ ?_ ?_ <;> intro hc) | refine cj_ ?_ | fail | refine qu 0 f1 (bY _) (bYi _ _) ?_ | refine qu 0 f2 (bY _) (bYi _ _) ?_) <;> (try refine ev_ ?_)) | with_reducible exact ti_)
 exact absurd ⟨by assumption, by omega⟩ c3
theorem qyk (hs : okS s) (hl : s.length ≤ 40000) (ha : qc a = true) (hb : qc b = true) (hA : appR s a = (A, 0)) (hB : appR s b = (B, 0)) (c1 : A.con = []) (c2 : B.con = []) (c3 : B.var = A.var) :
 VCalls Tryz.prog 46 [subE s, stkE bb L] [.ptr 0 0, encW (a, b), .ptr 1 0] fun H' o => H' = [subE s, stkE bb L] ∧ o = .val (.tup [.ptr 0 0, .int .i64 0]) := by
 have f1 := vm_A hs hl ha hA
 have f2 := vm_A hs hl hb hB
 refine qe c0m 2 (by simp) (by simp) ?_
 repeat' (first | refine vs_ ?_ | ((first | refine vr_ ?_ | fail) <;> (try simp only [c1, go_sem, ↓reduceIte])) | ((first | (refine cs_ ?_ ?_ <;> intro hc) | refine cj_ ?_ | fail | refine qu 0 f1 (bY _) (bYi _ _) ?_ | refine qu 0 f2 (bY _) (bYi _ _) ?_ | refine q5d (s := s) c2 c3 ?_) <;> (try refine ev_ ?_)) | with_reducible exact ti_)
theorem q2d (hs : okS s) (hl : s.length ≤ 40000) (ha : qc a = true) (hb : qc b = true) (hA : appR s a = (A, 0)) (hB : appR s b = (B, 0)) (hBl : qc B = true) (c1 : A.con = []) (hn : ¬ (B.con = [] ∧ B.var = A.var)) (he : (bndU s A.var B).2 ≠ 0) :
 VCalls Tryz.prog 46 [subE s, stkE bb L] [.ptr 0 0, encW (a, b), .ptr 1 0] fun H' o => H' = [subE s, stkE bb L] ∧ o = .val (.tup [.nilp, .int .i64 (bndU s A.var B).2]) := by
 have f1 := vm_A hs hl ha hA
 have f2 := vm_A hs hl hb hB
 have fn := qzv hs hl hBl hn he
 have hbv : AV.bds 0 [.int .i64 A.var, encY B] = true := by simp only [AV.bds, AV.bd, qz, Bool.and_true]
 refine qe c0m 2 (by simp) (by simp) ?_
 repeat' (first | refine vs_ ?_ | ((first | refine vr_ ?_ | fail) <;> (try simp only [c1, go_sem, ↓reduceIte])) | ((first | (refine cs_ ?_ ?_ <;> intro hc) | refine cj_ ?_ | fail | refine qu 0 f1 (bY _) (bYi _ _) ?_ | refine qu 0 f2 (bY _) (bYi _ _) ?_ | refine qu 0 fn hbv rfl ?_) <;> (try refine ev_ ?_)) | with_reducible exact ti_)
theorem q4n (hs : okS s) (hl : s.length ≤ 40000) (ha : qc a = true) (hb : qc b = true) (hA : appR s a = (A, 0)) (hB : appR s b = (B, 0)) (hAl : qc A = true) (c1 : A.con ≠ []) (c2 : B.con = []) (he : (bndU s B.var A).2 ≠ 0) :
 VCalls Tryz.prog 46 [subE s, stkE bb L] [.ptr 0 0, encW (a, b), .ptr 1 0] fun H' o => H' = [subE s, stkE bb L] ∧ o = .val (.tup [.nilp, .int .i64 (bndU s B.var A).2]) := by
 have f1 := vm_A hs hl ha hA
 have f2 := vm_A hs hl hb hB
 have fn := qzv hs hl hAl (fun h => c1 h.1) he
 have hbv : AV.bds 0 [.int .i64 B.var, encY A] = true := by simp only [AV.bds, AV.bd, qz, Bool.and_true]
 refine qe c0m 2 (by simp) (by simp) ?_
 repeat' (first | refine vs_ ?_ | ((first | refine vr_ ?_ | fail) <;> (try simp only [c1, c2, go_sem, ↓reduceIte])) | ((first | (refine cs_ ?_ ?_ <;> intro hc) | refine cj_ ?_ | fail | refine qu 0 f1 (bY _) (bYi _ _) ?_ | refine qu 0 f2 (bY _) (bYi _ _) ?_ | refine qu 0 fn hbv rfl ?_) <;> (try refine ev_ ?_)) | with_reducible exact ti_)
theorem qx1 {r : List Pr} (hs : okS s) (hl : s.length ≤ 40000) (ha : qc a = true) (hb : qc b = true) (hA : appR s a = (A, 0)) (hB : appR s b = (B, 0)) (hBl : qc B = true) (c1 : A.con = []) (hn : ¬ (B.con = [] ∧ B.var = A.var)) (hv : A.var ∉ varY B) (he : behR s [⟨A.var, B⟩] = (r, 0)) :
 VCalls Tryz.prog 46 [subE s, stkE bb L] [.ptr 0 0, encW (a, b), .ptr 1 0] fun H' o => H' = [subE s, stkE bb L, subE r] ∧ o = .val (.tup [.ptr 2 0, .int .i64 0]) := by
 have f1 := vm_A hs hl ha hA
 have f2 := vm_A hs hl hb hB
 refine qe c0m 3 (by simp) (by simp) ?_
 repeat' (first | refine vs_ ?_ | ((first | refine vr_ ?_ | fail) <;> (try simp only [c1, go_sem, ↓reduceIte])) | ((first | (refine cs_ ?_ ?_ <;> intro hc) | refine cj_ ?_ | fail | refine qu 0 f1 (bY _) (bYi _ _) ?_ | refine qu 0 f2 (bY _) (bYi _ _) ?_) <;> (try refine ev_ ?_)) | with_reducible exact ti_)
 refine qs8 (s := s) hs hl hBl hn hv he ?_
 (refine ev_ ?_; (try with_reducible exact ti_))
 refine qub (af' := ⟨[(6, .ptr 2 0), (7, .int .i64 0)], []⟩) (H' := [subE s, stkE bb L, subE r]) ?_ (qys [0, 1, 5] rfl (by simp) ?_ ?_ ?_)
 ·repeat' (first | refine vs_ ?_ | ((first | refine vr_ ?_ | (refine cs_ ?_ ?_ <;> intro hc) | refine cj_ ?_ | fail) <;> (try refine ev_ ?_)) | with_reducible exact ti_)
 all_goals (try (refine ev_ ?_; (try with_reducible exact ti_)))
theorem qwa {r : List Pr} (hs : okS s) (hl : s.length ≤ 40000) (ha : qc a = true) (hb : qc b = true) (hA : appR s a = (A, 0)) (hB : appR s b = (B, 0)) (hAl : qc A = true) (c1 : A.con ≠ []) (c2 : B.con = []) (hv : B.var ∉ varY A) (he : behR s [⟨B.var, A⟩] = (r, 0)) :
 VCalls Tryz.prog 46 [subE s, stkE bb L] [.ptr 0 0, encW (a, b), .ptr 1 0] fun H' o => H' = [subE s, stkE bb L, subE r] ∧ o = .val (.tup [.ptr 2 0, .int .i64 0]) := by
 have f1 := vm_A hs hl ha hA
 have f2 := vm_A hs hl hb hB
 refine qe c0m 3 (by simp) (by simp) ?_
 repeat' (first | refine vs_ ?_ | ((first | refine vr_ ?_ | fail) <;> (try simp only [c1, c2, go_sem, ↓reduceIte])) | ((first | (refine cs_ ?_ ?_ <;> intro hc) | refine cj_ ?_ | fail | refine qu 0 f1 (bY _) (bYi _ _) ?_ | refine qu 0 f2 (bY _) (bYi _ _) ?_) <;> (try refine ev_ ?_)) | with_reducible exact ti_)
 refine qs8 (s := s) hs hl hAl (fun h => c1 h.1) hv he ?_
 (refine ev_ ?_; (try with_reducible exact ti_))
 refine qub (af' := ⟨[(6, .ptr 2 0), (7, .int .i64 0)], []⟩) (H' := [subE s, stkE bb L, subE r]) ?_ (qys [0, 1, 5] rfl (by simp) ?_ ?_ ?_)
 ·repeat' (first | refine vs_ ?_ | ((first | refine vr_ ?_ | (refine cs_ ?_ ?_ <;> intro hc) | refine cj_ ?_ | fail) <;> (try refine ev_ ?_)) | with_reducible exact ti_)
 all_goals (try (refine ev_ ?_; (try with_reducible exact ti_)))
inductive StepQ (s : List Pr) (bb : Bool) (L : List (Ty × Ty)) (a b : Ty) (q : (List Pr × Int) × List (Ty × Ty)) : Prop
 | no (he : q.1.2 ≠ 0) (h : VCalls Tryz.prog 46 [subE s, stkE bb L] [.ptr 0 0, encW (a, b), .ptr 1 0] fun H' o => H' = [subE s, stkE bb L] ∧ o = .val (.tup [.nilp, .int .i64 q.1.2]))
 | same (he : q.1 = (s, 0)) (h : VCalls Tryz.prog 46 [subE s, stkE bb L] [.ptr 0 0, encW (a, b), .ptr 1 0] fun H' o => H' = [subE s, stkE (bb || decide (q.2 ≠ [])) (L ++ q.2.reverse)] ∧ o = .val (.tup [.ptr 0 0, .int .i64 0]))
 | new (he : q.1.2 = 0) (hz : q.2 = []) (h : VCalls Tryz.prog 46 [subE s, stkE bb L] [.ptr 0 0, encW (a, b), .ptr 1 0] fun H' o => H' = [subE s, stkE bb L, subE q.1.1] ∧ o = .val (.tup [.ptr 2 0, .int .i64 0]))
theorem qu6 (hs : okS s) (hl : s.length ≤ 40000) (ha : qc a = true) (hb : qc b = true) (hLl : L.length ≤ 50000000) (hbb : bb = false → L = []) : StepQ s bb L a b (stpU s a b) := by
 rw [stpU]
 by_cases e1 : (appR s a).2 = 0
 case neg =>
  rw [if_neg e1]
  exact .no e1 (qbe2 hs hl ha (A := (appR s a).1) rfl e1)
 rw [if_pos e1]
 have hA : appR s a = ((appR s a).1, 0) := Prod.ext rfl e1
 by_cases e2 : (appR s b).2 = 0
 case neg =>
  rw [if_neg e2]
  exact .no e2 (qbcz hs hl ha hb hA (B := (appR s b).1) rfl e2)
 rw [if_pos e2]
 have hB : appR s b = ((appR s b).1, 0) := Prod.ext rfl e2
 have hAl : qc (appR s a).1 = true := by obtain ⟨_, h1, h2⟩ := qbc hs e1; rw [h2]; exact h1
 have hBl : qc (appR s b).1 = true := by obtain ⟨_, h1, h2⟩ := qbc hs e2; rw [h2]; exact h1
 generalize (appR s a).1 = A at hA hAl ⊢
 generalize (appR s b).1 = B at hB hBl ⊢
 rw [hdU]
 by_cases c1 : A.con = []
 ·rw [if_pos c1]
  cases qom hs A.var hBl with
  | same h1 h2 h =>
    rw [h]
    refine .same rfl ?_
    have := qyk (bb := bb) (L := L) hs hl ha hb hA hB c1 h1 h2
    simpa using this
  | no h h' hn =>
    exact .no h (q2d hs hl ha hb hA hB hBl c1 hn h)
  | new r h hn hv h' =>
    rw [h']
    exact .new rfl rfl (qx1 hs hl ha hb hA hB hBl c1 hn hv h)
 rw [if_neg c1]
 by_cases c2 : B.con = []
 ·rw [if_pos c2]
  cases qom hs B.var hAl with
  | same h1 h2 h => exact absurd h1 c1
  | no h h' hn => exact .no h (q4n hs hl ha hb hA hB hAl c1 c2 h)
  | new r h hn hv h' =>
    rw [h']
    exact .new rfl rfl (qwa hs hl ha hb hA hB hAl c1 c2 hv h)
 rw [if_neg c2]
 by_cases c3 : A.con = B.con ∧ A.args.length = B.args.length
 ·rw [if_pos c3]
  have hz : A.args.length ≤ 5000 := by
   have h1 := ((ql _).1 hAl).1
   have h2 := qg1 A.args
   rw [qge] at h1
   omega
  exact .same rfl (qza hs hl ha hb hA hB c1 c2 c3.1 c3.2 hz hLl hbb)
 ·rw [if_neg c3]
  exact .no (by decide) (q46 hs hl ha hb hA hB c1 c2 c3)
end
set_option maxRecDepth 4000

section
variable {H : List Ent} {Q : List Ent → VO → Prop} {s r : List Pr} {a b : Ty} {bb bc : Bool} {L K : List (Ty × Ty)}
theorem qbs8 {e : Int} (h : VCalls Tryz.prog 46 [subE s, stkE bb L] [.ptr 0 0, encW (a, b), .ptr 1 0] fun H' o => H' = [subE s, stkE bb L] ∧ o = .val (.tup [.nilp, .int .i64 e])) (hq : Q H (.val (.tup [.nilp, .int .i64 e]))) (h0 : ent H 0 = subE s := by rfl) (h1 : ent H 1 = stkE bb L := by rfl) (hl : 1 < H.length := by simp) : VApp Tryz.prog H (.fn 46 [] []) [.ptr 0 0, encW (a, b), .ptr 1 0] Q := by
 refine qbv ?_
 rw [List.nil_append, List.append_nil]
 refine qbb [0, 1] h (by simp) ⟨⟨by omega, rfl, by rw [h0]; rfl⟩, ⟨hl, rfl, by rw [h1]; rfl⟩, trivial⟩ (by simp only [AV.bds, AV.bd, qe4, Bool.and_true]; rfl) (by simp only [AV.rens, AV.ren, qil]; rfl) fun H1 o ho => ?_
 obtain ⟨rfl, rfl⟩ := ho
 have e1 : qdw H [0, 1] [subE s, stkE bb L] = H := by
  show ((H.set 0 (subE s)).set 1 (stkE bb L)) ++ [] = _
  rw [List.append_nil, qb4 h0 (by omega), qb4 h1 hl]
 rw [e1]
 exact hq
theorem q74 (h : VCalls Tryz.prog 46 [subE s, stkE bb L] [.ptr 0 0, encW (a, b), .ptr 1 0] fun H' o => H' = [subE s, stkE bc K] ∧ o = .val (.tup [.ptr 0 0, .int .i64 0])) (hq : Q (H.set 1 (stkE bc K)) (.val (.tup [.ptr 0 0, .int .i64 0]))) (h0 : ent H 0 = subE s := by rfl) (h1 : ent H 1 = stkE bb L := by rfl) (hl : 1 < H.length := by simp) : VApp Tryz.prog H (.fn 46 [] []) [.ptr 0 0, encW (a, b), .ptr 1 0] Q := by
 refine qbv ?_
 rw [List.nil_append, List.append_nil]
 refine qbb [0, 1] h (by simp) ⟨⟨by omega, rfl, by rw [h0]; rfl⟩, ⟨hl, rfl, by rw [h1]; rfl⟩, trivial⟩ (by simp only [AV.bds, AV.bd, qe4, Bool.and_true]; rfl) (by simp only [AV.rens, AV.ren, qil]; rfl) fun H1 o ho => ?_
 obtain ⟨rfl, rfl⟩ := ho
 have e1 : qdw H [0, 1] [subE s, stkE bc K] = H.set 1 (stkE bc K) := by
  show ((H.set 0 (subE s)).set 1 (stkE bc K)) ++ [] = _
  rw [List.append_nil, qb4 h0 (by omega)]
 rw [e1]
 exact hq
theorem qblg (h : VCalls Tryz.prog 46 [subE s, stkE bb L] [.ptr 0 0, encW (a, b), .ptr 1 0] fun H' o => H' = [subE s, stkE bb L, subE r] ∧ o = .val (.tup [.ptr 2 0, .int .i64 0])) (hq : Q (H ++ [subE r]) (.val (.tup [.ptr H.length 0, .int .i64 0]))) (h0 : ent H 0 = subE s := by rfl) (h1 : ent H 1 = stkE bb L := by rfl) (hl : 1 < H.length := by simp) : VApp Tryz.prog H (.fn 46 [] []) [.ptr 0 0, encW (a, b), .ptr 1 0] Q := by
 refine qbv ?_
 rw [List.nil_append, List.append_nil]
 refine qbb [0, 1] h (by simp) ⟨⟨by omega, rfl, by rw [h0]; rfl⟩, ⟨hl, rfl, by rw [h1]; rfl⟩, trivial⟩ (by simp only [AV.bds, AV.bd, qe4, Bool.and_true]; rfl) (by simp only [AV.rens, AV.ren, qil]; rfl) fun H1 o ho => ?_
 obtain ⟨rfl, rfl⟩ := ho
 have e1 : qdw H [0, 1] [subE s, stkE bb L, subE r] = H ++ [subE r] := by
  show ((H.set 0 (subE s)).set 1 (stkE bb L)) ++ [subE r] = _
  rw [qb4 h0 (by omega), qb4 h1 hl]
 rw [e1]
 show Q _ (.val (.tup [.ptr (H.length + (2 - 2)) 0, .int .i64 0]))
 exact hq
end
def svSt (x : Nat × List Pr × Bool × List (Ty × Ty)) : AF × List Ent := (⟨[(4, .ptr 0 0), (6, .ptr 1 0)], []⟩, [subE x.2.1, stkE x.2.2.1 x.2.2.2.reverse])
set_option maxHeartbeats 1000000 in
theorem qjq {V : List Int} (hV : V.length ≤ 10000) {l : List (Ty × Ty)} (hl : l.length ≤ 100000) (hI : Inv V [] l) {n : Nat} {q : List Pr × Int} (hq : slvU n [] l = some q) : VCalls Tryz.prog 28 [] [.sl 6 (qbi l)] (newQ [] q) := by
 have fp := qtc false [] l (fun _ => rfl) (by simp only [List.length_nil]; omega)
 rw [List.nil_append, Bool.false_or] at fp
 have hbw : AV.bds 0 [.sl 6 (qbi l)] = true := by simp only [AV.bds, AV.bd, qb1, Bool.and_true]
 have main : ∀ k, (q.2 = 0 → k = 1) → (q.2 ≠ 0 → k = 0) → VCalls Tryz.prog 28 [] [.sl 6 (qbi l)] (newQ [] q) := fun k hk1 hk0 => by
  refine qe c0l k (by simp) (by simp) ?_
  unfold k0l
  refine qb7 (qd6 ?_)
  (refine ev_ ?_; (try with_reducible exact ti_))
  refine qe6 (S := Unit) (fun _ => True) (fun _ => (⟨[(0, .sl 6 (qbi l)), (4, .ptr 0 0)], []⟩, [subE []])) ?_ fun _ _ => ?_
  ·repeat' (first | refine vs_ ?_ | ((first | refine vr_ ?_ | refine qf4 qiq rfl rfl ?_ | (refine cs_ ?_ ?_ <;> intro hc) | refine cj_ ?_ | fail) <;> (try refine ev_ ?_)) | with_reducible exact ti_)
   refine qm () [0] trivial rfl (by simp) ?_ ?_ ?_ <;> (try refine ev_ ?_) <;> (try with_reducible exact ti_) <;> (try simp (disch := omega) only [qb, and_true, true_and])
  refine qe6 (S := Unit) (fun _ => True) (fun _ => (⟨[(0, .sl 6 (qbi l)), (4, .ptr 0 0), (6, .ptr 1 0)], []⟩, [subE [], .blk [.nils]])) ?_ fun _ _ => ?_
  ·repeat' (first | refine vs_ ?_ | ((first | refine vr_ ?_ | (refine cs_ ?_ ?_ <;> intro hc) | refine cj_ ?_ | fail) <;> (try refine ev_ ?_)) | with_reducible exact ti_)
   refine qm () [0, 1] trivial rfl (by simp) ?_ ?_ ?_ <;> (try refine ev_ ?_) <;> (try with_reducible exact ti_) <;> (try simp (disch := omega) only [qb, and_true, true_and])
  refine qqk 1 rfl rfl ?_
  simp only [List.set_cons_succ, List.set_cons_zero]
  repeat' (first | refine vs_ ?_ | ((first | refine vr_ ?_ | refine qu 1 fp hbw rfl ?_ | (refine cs_ ?_ ?_ <;> intro hc) | refine cj_ ?_ | fail) <;> (try refine ev_ ?_)) | with_reducible exact ti_)
  refine qp (S := Nat × List Pr × Bool × List (Ty × Ty)) (fun x => slvU x.1 x.2.1 x.2.2.2 = some q ∧ Inv V x.2.1 x.2.2.2 ∧ Bd l.length x.2.1 x.2.2.2 ∧ (x.2.2.1 = false → x.2.2.2 = [])) svSt (fun x => x.1) ?_ ?_
  ·refine qm (n, [], decide (l ≠ []), l) [0, 1] ⟨hq, hI, ⟨[], l, rfl, by simp [wtU], by simp⟩, fun h => by simpa using h⟩ rfl (by simp) ?_ ?_ ?_ <;> simp only [svSt] <;> (try refine ev_ ?_) <;> (try with_reducible exact ti_) <;> (try simp (disch := omega) only [qb, and_true, true_and])
  ·rintro ⟨n, s, bb, st⟩ ⟨i1, i2, i3, i4⟩
   dsimp only at i1 i2 i3 i4
   unfold svSt
   dsimp only
   have hsl := i2.len
   have hbl := qbsj i3
   cases st with
   | nil =>
     rw [qgi] at i1
     simp only [Option.some.injEq] at i1
     subst i1
     have hk := hk1 rfl
     subst hk
     have f0 := qz8 bb
     have hb0 : AV.bd 0 (.tup [encW W0, .bool false]) = true := qra 0 W0 false
     rw [List.reverse_nil]
     repeat' (first | refine vs_ ?_ | ((first | refine vr_ ?_ | refine qu 1 f0 rfl hb0 ?_ | (refine cs_ ?_ ?_ <;> intro hc) | refine cj_ ?_ | fail) <;> (try refine ev_ ?_)) | with_reducible exact ti_)
     rw [newQ, if_pos rfl]; exact ⟨rfl, rfl⟩
   | cons x st =>
     obtain ⟨a, b⟩ := x
     have hbb : bb = true := by
      cases bb with
      | true => rfl
      | false => exact absurd (i4 rfl) (by simp)
     subst hbb
     rw [List.length_cons] at hbl
     have f0 := qbd5 st.reverse (a, b) (by rw [List.length_reverse]; omega)
     have hb0 : AV.bd 0 (.tup [encW (a, b), .bool true]) = true := qra 0 (a, b) true
     obtain ⟨ha, hb⟩ := i2.leg (a, b) (by simp)
     obtain ⟨m, rfl⟩ : ∃ m, n = m + 1 := by
      cases n with
      | zero => simp [slvU] at i1
      | succ m => exact ⟨m, rfl⟩
     rw [slvU] at i1
     dsimp only at i1
     have hc := qe3 i2
     have hst := qu6 (bb := true) (L := st.reverse) i2.ok (by omega) ha hb (by rw [List.length_reverse]; omega) (fun h => by cases h)
     have hnx : (stpU s a b).1.2 = 0 → Inv V (stpU s a b).1.1 ((stpU s a b).2 ++ st) ∧ Bd l.length (stpU s a b).1.1 ((stpU s a b).2 ++ st) := fun h0 => ⟨(qe7 i2 hc h0).1, q90 i2 i3 hc h0⟩
     generalize stpU s a b = z at i1 hst hnx
     rw [List.reverse_cons]
     cases hst with
     | no he h =>
       rw [if_neg he] at i1
       simp only [Option.some.injEq] at i1
       subst i1
       have hk := hk0 he
       subst hk
       dsimp only at he hk0 hk1
       have hd : decide (z.1.2 = 0) = false := decide_eq_false he
       repeat' (first | refine vs_ ?_ | ((first | refine vr_ ?_ | fail) <;> (try simp only [hd, decide_false, go_sem, ↓reduceIte])) | ((first | (refine cs_ ?_ ?_ <;> intro hc) | refine cj_ ?_ | fail | refine qu 1 f0 rfl hb0 ?_ | refine qbs8 h ?_) <;> (try refine ev_ ?_)) | with_reducible exact ti_)
       rw [newQ, if_neg he]; exact ⟨rfl, rfl⟩
     | same he h =>
       obtain ⟨⟨z1, z2⟩, z3⟩ := z
       dsimp only at he
       cases he
       rw [if_pos rfl] at i1
       obtain ⟨j1, j2⟩ := hnx rfl
       repeat' (first | refine vs_ ?_ | ((first | refine vr_ ?_ | refine qu 1 f0 rfl hb0 ?_ | refine q74 h ?_ | (refine cs_ ?_ ?_ <;> intro hc) | refine cj_ ?_ | fail) <;> (try refine ev_ ?_)) | with_reducible exact ti_)
       refine qm (m, s, (true || decide (z3 ≠ [])), z3 ++ st) [0, 1] ⟨⟨i1, j1, j2, fun h => by simp at h⟩, Nat.lt_succ_self m⟩ rfl (by simp) ?_ ?_ ?_ <;> simp only [svSt, List.reverse_append] <;> (try refine ev_ ?_) <;> (try with_reducible exact ti_) <;> (try simp (disch := omega) only [qb, and_true, true_and])
     | new he hz h =>
       obtain ⟨⟨z1, z2⟩, z3⟩ := z
       dsimp only at he hz
       subst he hz
       rw [if_pos rfl] at i1
       obtain ⟨j1, j2⟩ := hnx rfl
       repeat' (first | refine vs_ ?_ | ((first | refine vr_ ?_ | refine qu 1 f0 rfl hb0 ?_ | refine qblg h ?_ | (refine cs_ ?_ ?_ <;> intro hc) | refine cj_ ?_ | fail) <;> (try refine ev_ ?_)) | with_reducible exact ti_)
       refine qm (m, z1, true, [] ++ st) [3, 1] ⟨⟨i1, j1, j2, fun h => by simp at h⟩, Nat.lt_succ_self m⟩ rfl (by simp) ?_ ?_ ?_ <;> simp only [svSt, List.nil_append] <;> (try refine ev_ ?_) <;> (try with_reducible exact ti_) <;> (try simp (disch := omega) only [qb, and_true, true_and])
 by_cases he : q.2 = 0
 ·exact main 1 (fun _ => rfl) (fun h => absurd he h)
 ·exact main 0 (fun h => absurd h he) (fun _ => rfl)
end Go.Proofs.YtlahgbhhejkgbaaGreat
