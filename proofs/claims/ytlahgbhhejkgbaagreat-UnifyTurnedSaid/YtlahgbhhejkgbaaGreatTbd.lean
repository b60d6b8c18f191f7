/- Texts of this proof, joined. -/
import Derived.Test.YtlahgbhhejkgbaaGreatTbc
import Derived.Test.YtlahgbhhejkgbaaGreatTaw

/- substitutions: new ones, types and their pairs -/
set_option maxRecDepth 4000
namespace Go.Proofs.YtlahgbhhejkgbaaGreat
open Go Go.RowKit Go.V
set_option linter.unusedVariables false
set_option linter.unusedSimpArgs false

theorem qhp {l : List Pr} {i : Nat} (h : i < l.length) : l.take (i + 1) = l.take i ++ [l.getD i R0] := by
 rw [List.take_add_one, List.getD_eq_getElem?_getD, List.getElem?_eq_getElem h]; rfl
def smlR (l : List Pr) : Prop := ∀ p ∈ l, szY p.ty ≤ 20000 ∧ dpY p.ty ≤ 300
theorem qpq {l : List Pr} (hs : smlR l) (hl : l.length ≤ 100000) : VCalls Tryz.prog 18 [] [.sl 4 (q7 l)] fun H' o => H' = [subE (newR l)] ∧ o = .val (.ptr 0 0) := by
 refine qe c0v 1 (by simp) (by simp) ?_
 repeat' (first | refine vs_ ?_ | ((first | refine vr_ ?_ | (refine cs_ ?_ ?_ <;> intro hc) | refine cj_ ?_ | simp (disch := omega) only [encs_getN, qb]) <;> (try refine ev_ ?_)) | with_reducible exact ti_)
 refine qp5 0 rfl rfl ?_
 refine qq (S := Nat) (fun i => i ≤ l.length) (fun i => (⟨[(3, .ptr 0 0), (8, .sl 4 (q7 l)), (9, .int .i64 l.length), (10, .int .i64 i)], []⟩, [subE (newR (l.take i))])) (fun i => l.length - i) ?_ fun i hi => ?_
 ·refine qm 0 [0] (Nat.zero_le _) rfl (by simp) ?_ ?_ ?_ <;> simp only [List.take_zero, newR, addR, qil] <;> (try refine ev_ ?_) <;> (try with_reducible exact ti_) <;> (try simp (disch := omega) only [qb, and_true, true_and])
  all_goals rfl
 ·by_cases hlt : i < l.length
  ·have hok := qqt (l.take i)
   have hln := q44 (l.take i)
   rw [List.length_take] at hln
   have hm := hs _ (qfe hlt)
   have hn : newR (l.take (i + 1)) = (setR (newR (l.take i)) (l.getD i R0).v (l.getD i R0).ty).1 := by rw [qhp hlt, newR, qju]; rfl
   have hp := qbh hlt
   repeat' (first | refine vs_ ?_ | ((first | refine vr_ ?_ | fail) <;> (try simp (disch := first | omega | (simp only [List.length_set, List.length_append, List.length_cons, List.length_nil]; done) | (simp only [List.length_set, List.length_append, List.length_cons, List.length_nil]; omega)) only [hp, qb, go_sem, ↓reduceIte])) | ((first | simp (disch := omega) only [hp] | (refine cs_ ?_ ?_ <;> intro hc) | refine cj_ ?_ | simp (disch := omega) only [encs_getN, qb] | refine qbl 0 (qfo hok.1 (by omega) _ hm.1 hm.2) ?_) <;> (try refine ev_ ?_)) | with_reducible exact ti_)
   ·refine qm (i + 1) [0] ⟨by omega, by omega⟩ rfl (by simp) ?_ ?_ ?_ <;> simp only [hn] <;> (try refine ev_ ?_) <;> (try with_reducible exact ti_) <;> (try simp (disch := omega) only [qb, and_true, true_and])
    all_goals rw [qt (by omega) (by omega), Int.natCast_add]; rfl
   ·exfalso; omega
  ·have hie : i = l.length := by omega
   subst hie
   rw [List.take_length]
   repeat' (first | refine vs_ ?_ | ((first | refine vr_ ?_ | (refine cs_ ?_ ?_ <;> intro hc) | refine cj_ ?_ | simp (disch := omega) only [encs_getN, qb]) <;> (try refine ev_ ?_)) | with_reducible exact ti_)
   all_goals (exfalso; omega)
set_option maxRecDepth 4000

theorem qpc {R : World → (Nat → Nat → Prop) → Gh → Prop} {b : Bool} {s : List Pr} (hG : ∀ v, VM Tryz.prog 25 (.cus R) (.cus R) [svA b 0, .int .i64 v] (getV s v)) (hs : okS s) {t : Ty} (h1 : szY t ≤ 20000) (h2 : dpY t ≤ 300) :
 VM Tryz.prog 19 (.cus R) (.cus R) [svA b 0, encY t] (typA (appR s t)) := by
 refine qe c0u 1 (by simp) (by simp) ?_
 have hLg := qcr h1 h2
 rw [← q8m hs]
 by_cases hlg : qc t = true
 ·obtain ⟨q1, q2, q3⟩ := (ql t).1 hlg
  have hput := qbaa hG (qba7 hs) t (qc4 t q3) h1 4096 1 (by omega) (by omega) (by omega) (by omega)
  rw [hlg] at hLg
  by_cases hn : (bput s t 4096 1).1 < 0
  ·have hnd : decide ((bput s t 4096 1).1 < 0) = true := decide_eq_true hn
   rw [appP, if_pos hlg, if_pos hn]
   repeat' (first | refine vs_ ?_ | ((first | refine vr_ ?_ | fail) <;> (try simp only [hnd, go_sem, ↓reduceIte])) | ((first | (refine cs_ ?_ ?_ <;> intro hc) | refine cj_ ?_ | fail | refine qa hLg fun _ => ?_ | refine qqd 3 0 hput (by simp) ?_) <;> (try refine ev_ ?_)) | with_reducible exact ti_)
   all_goals rfl
  ·have hnd : decide ((bput s t 4096 1).1 < 0) = false := decide_eq_false hn
   rw [appP, if_pos hlg, if_neg hn]
   repeat' (first | refine vs_ ?_ | ((first | refine vr_ ?_ | fail) <;> (try simp only [hnd, go_sem, ↓reduceIte])) | ((first | (refine cs_ ?_ ?_ <;> intro hc) | refine cj_ ?_ | fail | refine qa hLg fun _ => ?_ | refine qqd 3 0 hput (by simp) ?_) <;> (try refine ev_ ?_)) | with_reducible exact ti_)
   all_goals rfl
 ·rw [appP, if_neg hlg]
  have hlg : qc t = false := by simpa using hlg
  rw [hlg] at hLg
  repeat' (first | refine vs_ ?_ | ((first | refine vr_ ?_ | refine qa hLg fun _ => ?_ | (refine cs_ ?_ ?_ <;> intro hc) | refine cj_ ?_ | fail) <;> (try refine ev_ ?_)) | with_reducible exact ti_)
  all_goals rfl
set_option maxRecDepth 4000

def zR : AV := .agg [.int .i64 0, .str [], .int .i64 0, .nils]
def cpR (l : List Pr) (i : Nat) : List AV := q7 (l.take i) ++ List.replicate (l.length - i) zR
theorem q95 {l : List Pr} {i : Nat} (h : i ≤ l.length) : (cpR l i).length = l.length := by
 rw [cpR, List.length_append, qcd, List.length_take, List.length_replicate]; omega
theorem qbrf (l : List Pr) : cpR l 0 = List.replicate l.length zR := by rw [cpR, List.take_zero, qvi, Nat.sub_zero]; rfl
theorem qbci (l : List Pr) : cpR l l.length = q7 l := by rw [cpR, List.take_length, Nat.sub_self, List.replicate_zero, List.append_nil]
theorem qyw {l : List Pr} {i : Nat} (h : i < l.length) : (cpR l i).set i (encR (l.getD i R0)) = cpR l (i + 1) := by
 have h2 : (q7 (l.take i)).length = i := by rw [qcd, List.length_take]; omega
 obtain ⟨k, hk⟩ : ∃ k, l.length - i = k + 1 := ⟨l.length - i - 1, by omega⟩
 have hk2 : l.length - (i + 1) = k := by omega
 rw [cpR, cpR, hk, hk2, List.replicate_succ, qhp h, ← qtm, List.set_append_right _ _ (by omega), h2, Nat.sub_self, List.set_cons_zero, List.append_assoc]
 rfl
theorem qs3 (k : Nat) (l : List Pr) (i : Nat) : AV.bds k (cpR l i) = true := by
 rw [cpR, qg6, qb1, qc8]
 simp [zR, AV.bd, AV.bds]
theorem qpy (σ : Nat → Nat) (l : List Pr) (i : Nat) : AV.rens σ (cpR l i) = cpR l i := qp (m := 0) (fun i hi => by omega) _ (qs3 0 l i)
attribute [go_sem] qs3 qpy
theorem qvp : VCalls Tryz.prog 12 [.blk [.nils]] [.ptr 0 0] (qch fun H' o => H' = [subE []] ∧ o = .val (.sl 4 (q7 []))) := by
 refine qe c0t 1 (by simp) (by simp) ?_
 repeat' (first | refine vs_ ?_ | ((first | refine vr_ ?_ | (refine cs_ ?_ ?_ <;> intro hc) | refine cj_ ?_ | simp (disch := omega) only [encs_getN, qb]) <;> (try refine ev_ ?_)) | with_reducible exact ti_)
 refine qq (S := Unit) (fun _ => True) (fun _ => (⟨[(3, .row 1 0), (18, .int .i64 (0 : Nat)), (19, .int .i64 (0 : Nat))], []⟩, [.blk [.nils], .mrow 4 []])) (fun _ => 0) ?_ fun x hx => ?_
 ·refine qm () [0, 1] trivial rfl (by simp) ?_ ?_ ?_ <;> (try refine ev_ ?_) <;> (try with_reducible exact ti_) <;> (try simp (disch := omega) only [qb, and_true, true_and])
  all_goals rfl
 ·refine qeo 1 rfl (fun v hv => by simp at hv) ?_
  repeat' (first | refine vs_ ?_ | ((first | refine vr_ ?_ | (refine cs_ ?_ ?_ <;> intro hc) | refine cj_ ?_ | simp (disch := omega) only [encs_getN, qb]) <;> (try refine ev_ ?_)) | with_reducible exact ti_)
  ·exact absurd hc (by omega)
  ·exact qfn rfl (by simp) rfl ⟨rfl, rfl⟩
theorem q40 {s : List Pr} (hs : s ≠ []) (hl : s.length ≤ 100000) (ho : smlR s) : VCalls Tryz.prog 12 [.blk [.row 1 s.length], qbx s] [.ptr 0 0] (qch fun H' o => H' = [subE s] ∧ o = .val (.sl 4 (q7 s))) := by
 refine qe c0t 2 (by simp) (by simp) ?_
 repeat' (first | refine vs_ ?_ | ((first | refine vr_ ?_ | (refine cs_ ?_ ?_ <;> intro hc) | refine cj_ ?_ | simp (disch := omega) only [encs_getN, qb]) <;> (try refine ev_ ?_)) | with_reducible exact ti_)
 have hm : s.length ≤ maxLen := by unfold maxLen; omega
 refine ⟨hm, ⟨by omega, by omega⟩, ?_⟩
 repeat' (first | refine vs_ ?_ | ((first | refine vr_ ?_ | (refine cs_ ?_ ?_ <;> intro hc) | refine cj_ ?_ | simp (disch := omega) only [encs_getN, qb]) <;> (try refine ev_ ?_)) | with_reducible exact ti_)
 refine qq (S := Nat) (fun i => i ≤ s.length) (fun i => (⟨[(3, .row 2 s.length), (17, .row 1 s.length), (18, .int .i64 s.length), (19, .int .i64 i)], []⟩, [.blk [.row 1 s.length], qbx s, .mrow 4 (cpR s i)])) (fun i => s.length - i) ?_ fun i hi => ?_
 ·refine qm 0 [0, 1, 2] (Nat.zero_le _) rfl (by simp) ?_ ?_ ?_ <;> simp only [qbrf, zR] <;> (try refine ev_ ?_) <;> (try with_reducible exact ti_) <;> (try simp (disch := omega) only [qb, and_true, true_and])
  all_goals
   rw [show List.replicate s.length (AV.agg [AV.int .i64 0, AV.str [], AV.int .i64 0, AV.nils]) = cpR s 0 from (qbrf _).symm]
   exact ⟨qs3 _ _ _, by rw [qpy]⟩
 ·by_cases hlt : i < s.length
  ·have hp := qbh hlt
   have hc := q95 hi
   have hcp := qdi (s.getD i R0).ty (by have := (ho _ (qfe hlt)).1; omega)
   repeat' (first | refine vs_ ?_ | ((first | refine vr_ ?_ | fail) <;> (try simp (disch := first | omega | (simp only [List.length_set, List.length_append, List.length_cons, List.length_nil]; done) | (simp only [List.length_set, List.length_append, List.length_cons, List.length_nil]; omega)) only [hp, qb, go_sem, ↓reduceIte])) | ((first | simp (disch := omega) only [hp] | (refine cs_ ?_ ?_ <;> intro hc) | refine cj_ ?_ | simp (disch := omega) only [encs_getN, qb] | refine qa hcp fun _ => ?_ | refine qg hcp ?_) <;> (try refine ev_ ?_)) | with_reducible exact ti_)
   ·refine qm (i + 1) [0, 1, 2] ⟨by omega, by omega⟩ rfl (by simp) ?_ ?_ ?_ <;> simp only [← qyw hlt] <;> (try refine ev_ ?_) <;> (try with_reducible exact ti_) <;> (try simp (disch := omega) only [qb, and_true, true_and])
    all_goals (rw [qyw hlt]; exact ⟨qs3 _ _ _, by rw [qpy]⟩)
   ·exfalso; omega
  ·have hie : i = s.length := by omega
   subst hie
   rw [qbci]
   refine qeo 2 rfl (qlg _) ?_
   repeat' (first | refine vs_ ?_ | ((first | refine vr_ ?_ | (refine cs_ ?_ ?_ <;> intro hc) | refine cj_ ?_ | simp (disch := omega) only [encs_getN, qb]) <;> (try refine ev_ ?_)) | with_reducible exact ti_)
   all_goals try (exfalso; omega)
   all_goals exact qc7 1 hs rfl rfl (by simp) (by simp) (by simp [AV.bd, qb1]) ⟨rfl, rfl⟩
theorem qeu {s : List Pr} (hl : s.length ≤ 100000) (ho : smlR s) : VM Tryz.prog 12 (subE s) (subE s) [.ptr 0 0] (.sl 4 (q7 s)) := by
 by_cases hs : s = []
 ·subst hs
  exact qfm (by rw [qil]; exact qvp) rfl
 ·exact qfm (by have := q40 hs hl ho; rwa [← qmf hs] at this) rfl

section
variable {P : Program} {f : FuncId} {e : Ent} {L : List Ent} {args : List AV} {Q : List Ent → VO → Prop}
theorem qgr (h : VCalls P f [] args fun H' o => H' = [e] ∧ o = .val (.ptr 0 0)) (hb : e.bd 0 = true) (ha : AV.bds 0 args = true) (hq : Q (L ++ [e]) (.val (.ptr L.length 0))) : VApp P L (.fn f [] []) args Q := by
 refine q26 h ha fun H1 o ho => ?_
 obtain ⟨rfl, rfl⟩ := ho
 have e1 : qdy L [] [e] = L ++ [e] := by
  show L ++ [e.ren _] = _
  rw [Ent.ren_bd0 hb]
 rw [e1]
 exact hq
end
theorem qhn {s : List Pr} (h : okS s) : smlR s := fun p hp => by
 have := (ql _).1 (h.2 p hp)
 omega
theorem qis : VCalls Tryz.prog 18 [] [.sl 4 []] fun H' o => H' = [subE []] ∧ o = .val (.ptr 0 0) := qpq (l := []) (fun p hp => by simp at hp) (by simp)
set_option maxRecDepth 4000

theorem qj7 (t : List Pr) (b : List Pr) : ∀ (a acc : List Pr), (qbp t acc a).2 = 0 → qbp t acc (a ++ b) = qbp t (qbp t acc a).1 b
 | [], acc, _ => rfl
 | p :: r, acc, h => by
   rw [qbp] at h
   rw [List.cons_append, qbp, qbp]
   split at h
   ·rename_i h0
    rw [if_pos h0, if_pos h0, qj7 t b r _ h]
   ·rename_i h0
    exact absurd h h0
theorem qms {t : List Pr} : ∀ (a : List Pr) {acc : List Pr}, okS acc → okS (qbp t acc a).1
 | [], _, h => h
 | p :: r, acc, h => by
   rw [qbp]
   split
   ·exact qms r (qj8 h _ _)
   ·exact qcu
theorem qj6 (t : List Pr) : ∀ (a acc : List Pr), (qbp t acc a).1.length ≤ acc.length + a.length
 | [], acc => by simp [qbp]
 | p :: r, acc => by
   rw [qbp, List.length_cons]
   split
   ·have h1 := qj6 t r (setR acc p.v (appR t p.ty).1).1
    have h2 := qin acc p.v (appR t p.ty).1
    omega
   ·simp
theorem qbco {s t : List Pr} (hs : okS s) (ht : okS t) : behR s t = if (qbp t [] s).2 = 0 then (addR (qbp t [] s).1 t, 0) else ([], (qbp t [] s).2) := by
 rw [behR, ← qse ht s [] hs.1 (fun p hp => by simp at hp)]
theorem qz5 {s t : List Pr} {i : Nat} (h : i < s.length) (h0 : (qbp t [] (s.take i)).2 = 0) : qbp t [] s = qbp t (qbp t [] (s.take i)).1 (s.getD i R0 :: s.drop (i + 1)) := by
 have := qj7 t (s.drop i) (s.take i) [] h0
 rwa [List.take_append_drop, qbqd h] at this
theorem qr9 {s t : List Pr} {i : Nat} (h : i < s.length) (h0 : (qbp t [] (s.take i)).2 = 0) (ha : (appR t (s.getD i R0).ty).2 = 0) : qbp t [] (s.take (i + 1)) = ((setR (qbp t [] (s.take i)).1 (s.getD i R0).v (appR t (s.getD i R0).ty).1).1, 0) := by
 rw [qhp h, qj7 t _ _ _ h0, qbp, if_pos ha, qbp]
theorem qlf {s t : List Pr} {i : Nat} (h : i < s.length) (h0 : (qbp t [] (s.take i)).2 = 0) (ha : (appR t (s.getD i R0).ty).2 ≠ 0) : qbp t [] s = ([], (appR t (s.getD i R0).ty).2) := by
 rw [qz5 h h0, qbp, if_neg ha]
def newQ (L : List Ent) (p : List Pr × Int) (H' : List Ent) (o : VO) : Prop :=
 if p.2 = 0 then H' = L ++ [subE p.1] ∧ o = .val (.tup [.ptr L.length 0, .int .i64 0]) else H' = L ∧ o = .val (.tup [.nilp, .int .i64 p.2])
theorem q3d {s t : List Pr} (hs : okS s) (ht : okS t) (h1 : s.length ≤ 40000) (h2 : t.length ≤ 40000) : VCalls Tryz.prog 43 [subE s, subE t] [.ptr 0 0, .ptr 1 0] (newQ [subE s, subE t] (behR s t)) := by
 have hms := qhn hs
 have hmt := qhn ht
 have hA : ∀ ty, szY ty ≤ 20000 → dpY ty ≤ 300 → VM Tryz.prog 19 (subE t) (subE t) [.ptr 0 0, encY ty] (typA (appR t ty)) := fun ty q1 q2 => qpc (b := true) (R := bunR (subH t)) (fun v => qht ht.1 (by omega) v) ht q1 q2
 have hstep : ∀ i, i < s.length → (qbp t [] (s.take i)).2 = 0 → risR (qbp t [] (s.take i)).1 ∧ (qbp t [] (s.take i)).1.length ≤ 40000 := fun i hi h0 => by
  have := qj6 t (s.take i) []
  rw [List.length_take] at this
  exact ⟨(qms (s.take i) qcu).1, by simp at this; omega⟩
 have hap : ∀ i, i < s.length → (appR t (s.getD i R0).ty).2 = 0 → szY (appR t (s.getD i R0).ty).1 ≤ 20000 ∧ dpY (appR t (s.getD i R0).ty).1 ≤ 300 := fun i hi h0 => by
  obtain ⟨_, q2, q3⟩ := qbg ht h0
  rw [q3]
  have := (ql _).1 q2
  omega
 rw [qbco hs ht]
 by_cases he : (qbp t [] s).2 = 0
 ·rw [if_pos he]
  refine qe c0s 3 (by simp) (by simp) ?_
  repeat' (first | refine vs_ ?_ | ((first | refine vr_ ?_ | refine qgr qis rfl rfl ?_ | refine qbl 0 (qeu (by omega) hms) ?_ | (refine cs_ ?_ ?_ <;> intro hc) | refine cj_ ?_ | simp (disch := omega) only [encs_getN, qb]) <;> (try refine ev_ ?_)) | with_reducible exact ti_)
  refine qq (S := Nat) (fun i => i ≤ s.length ∧ (qbp t [] (s.take i)).2 = 0) (fun i => (⟨[(1, .ptr 1 0), (6, .ptr 2 0), (15, .sl 4 (q7 s)), (16, .int .i64 s.length), (17, .int .i64 i)], []⟩, [subE s, subE t, subE (qbp t [] (s.take i)).1])) (fun i => s.length - i) ?_ fun i hi => ?_
  ·refine qm 0 [0, 1, 2] ⟨Nat.zero_le _, rfl⟩ rfl (by simp) ?_ ?_ ?_ <;> simp only [List.take_zero, qbp] <;> (try refine ev_ ?_) <;> (try with_reducible exact ti_) <;> (try simp (disch := omega) only [qb, and_true, true_and])
  ·obtain ⟨hi, h0⟩ := hi
   by_cases hlt : i < s.length
   ·have hp := qbh hlt
    have hm := hms _ (qfe hlt)
    obtain ⟨a1, a2⟩ := hstep i hlt h0
    by_cases ha : (appR t (s.getD i R0).ty).2 = 0
    ·obtain ⟨b1, b2⟩ := hap i hlt ha
     have hn := qr9 hlt h0 ha
     have hT : typA (appR t (s.getD i R0).ty) = .tup [encY (appR t (s.getD i R0).ty).1, .int .i64 0] := by rw [typA, ha]
     repeat' (first | refine vs_ ?_ | ((first | refine vr_ ?_ | fail) <;> (try simp (disch := first | omega | (simp only [List.length_set, List.length_append, List.length_cons, List.length_nil]; done) | (simp only [List.length_set, List.length_append, List.length_cons, List.length_nil]; omega)) only [hp, qb, go_sem, ↓reduceIte])) | ((first | simp (disch := omega) only [hp] | simp (disch := omega) only [hT] | (refine cs_ ?_ ?_ <;> intro hc) | refine cj_ ?_ | simp (disch := omega) only [encs_getN, qb] | refine qbl 1 (hA _ hm.1 hm.2) ?_ rfl rfl (by simp) rfl (qq6 0 _) | refine qbl 2 (qfo a1 (by omega) _ b1 b2) ?_) <;> (try refine ev_ ?_)) | with_reducible exact ti_)
     ·refine qm (i + 1) [0, 1, 2] ⟨⟨by omega, by rw [hn]⟩, by omega⟩ rfl (by simp) ?_ ?_ ?_ <;> simp only [hn] <;> (try refine ev_ ?_) <;> (try with_reducible exact ti_) <;> (try simp (disch := omega) only [qb, and_true, true_and])
      all_goals rw [qt (by omega) (by omega), Int.natCast_add]; rfl
     ·exfalso; omega
    ·exact absurd (by rw [qlf hlt h0 ha] at he; exact he) ha
   ·have hie : i = s.length := by omega
    subst hie
    rw [List.take_length]
    have hok : okS (qbp t [] s).1 := qms s qcu
    have hln := qj6 t s []
    simp only [List.length_nil, Nat.zero_add] at hln
    repeat' (first | refine vs_ ?_ | ((first | refine vr_ ?_ | refine qbl 1 (qeu (by omega) hmt) ?_ | (refine cs_ ?_ ?_ <;> intro hc) | refine cj_ ?_ | simp (disch := omega) only [encs_getN, qb]) <;> (try refine ev_ ?_)) | with_reducible exact ti_)
    ·exfalso; omega
    ·generalize (qbp t [] s).1 = a at hok hln ⊢
     refine qq (S := Nat) (fun i => i ≤ t.length) (fun i => (⟨[(6, .ptr 2 0), (38, .sl 4 (q7 t)), (39, .int .i64 t.length), (40, .int .i64 i)], []⟩, [subE s, subE t, subE (addR a (t.take i))])) (fun i => t.length - i) ?_ fun i hi => ?_
     ·refine qm 0 [0, 1, 2] (Nat.zero_le _) rfl (by simp) ?_ ?_ ?_ <;> simp only [List.take_zero, addR] <;> (try refine ev_ ?_) <;> (try with_reducible exact ti_) <;> (try simp (disch := omega) only [qb, and_true, true_and])
     ·by_cases hlt : i < t.length
      ·have hp := qbh hlt
       have hm := hmt _ (qfe hlt)
       have hq := qmc (t.take i) hok
       have hql := qmy (t.take i) a
       rw [List.length_take] at hql
       have hn := qwk hlt a
       repeat' (first | refine vs_ ?_ | ((first | refine vr_ ?_ | fail) <;> (try simp (disch := first | omega | (simp only [List.length_set, List.length_append, List.length_cons, List.length_nil]; done) | (simp only [List.length_set, List.length_append, List.length_cons, List.length_nil]; omega)) only [hp, qb, go_sem, ↓reduceIte])) | ((first | simp (disch := omega) only [hp] | (refine cs_ ?_ ?_ <;> intro hc) | refine cj_ ?_ | simp (disch := omega) only [encs_getN, qb] | refine qbl 2 (qfo hq.1 (by omega) _ hm.1 hm.2) ?_) <;> (try refine ev_ ?_)) | with_reducible exact ti_)
       ·refine qm (i + 1) [0, 1, 2] ⟨by omega, by omega⟩ rfl (by simp) ?_ ?_ ?_ <;> simp only [hn] <;> (try refine ev_ ?_) <;> (try with_reducible exact ti_) <;> (try simp (disch := omega) only [qb, and_true, true_and])
        all_goals rw [qt (by omega) (by omega), Int.natCast_add]; rfl
      ·have hie : i = t.length := by omega
       subst hie
       rw [List.take_length]
       repeat' (first | refine vs_ ?_ | ((first | refine vr_ ?_ | (refine cs_ ?_ ?_ <;> intro hc) | refine cj_ ?_ | simp (disch := omega) only [encs_getN, qb]) <;> (try refine ev_ ?_)) | with_reducible exact ti_)
       all_goals try (exfalso; omega)
       all_goals
        rw [newQ, if_pos rfl]
        exact ⟨rfl, rfl⟩
 ·rw [if_neg he]
  refine qe c0s 2 (by simp) (by simp) ?_
  repeat' (first | refine vs_ ?_ | ((first | refine vr_ ?_ | refine qgr qis rfl rfl ?_ | refine qbl 0 (qeu (by omega) hms) ?_ | (refine cs_ ?_ ?_ <;> intro hc) | refine cj_ ?_ | simp (disch := omega) only [encs_getN, qb]) <;> (try refine ev_ ?_)) | with_reducible exact ti_)
  refine qq (S := Nat) (fun i => i ≤ s.length ∧ (qbp t [] (s.take i)).2 = 0) (fun i => (⟨[(1, .ptr 1 0), (6, .ptr 2 0), (15, .sl 4 (q7 s)), (16, .int .i64 s.length), (17, .int .i64 i)], []⟩, [subE s, subE t, subE (qbp t [] (s.take i)).1])) (fun i => s.length - i) ?_ fun i hi => ?_
  ·refine qm 0 [0, 1, 2] ⟨Nat.zero_le _, rfl⟩ rfl (by simp) ?_ ?_ ?_ <;> simp only [List.take_zero, qbp] <;> (try refine ev_ ?_) <;> (try with_reducible exact ti_) <;> (try simp (disch := omega) only [qb, and_true, true_and])
  ·obtain ⟨hi, h0⟩ := hi
   have hlt : i < s.length := by
    by_cases hlt : i < s.length
    ·exact hlt
    ·rw [List.take_of_length_le (by omega)] at h0
     exact absurd h0 he
   have hp := qbh hlt
   have hm := hms _ (qfe hlt)
   obtain ⟨a1, a2⟩ := hstep i hlt h0
   by_cases ha : (appR t (s.getD i R0).ty).2 = 0
   ·obtain ⟨b1, b2⟩ := hap i hlt ha
    have hn := qr9 hlt h0 ha
    have hT : typA (appR t (s.getD i R0).ty) = .tup [encY (appR t (s.getD i R0).ty).1, .int .i64 0] := by rw [typA, ha]
    repeat' (first | refine vs_ ?_ | ((first | refine vr_ ?_ | fail) <;> (try simp (disch := first | omega | (simp only [List.length_set, List.length_append, List.length_cons, List.length_nil]; done) | (simp only [List.length_set, List.length_append, List.length_cons, List.length_nil]; omega)) only [hp, qb, go_sem, ↓reduceIte])) | ((first | simp (disch := omega) only [hp] | simp (disch := omega) only [hT] | (refine cs_ ?_ ?_ <;> intro hc) | refine cj_ ?_ | simp (disch := omega) only [encs_getN, qb] | refine qbl 1 (hA _ hm.1 hm.2) ?_ rfl rfl (by simp) rfl (qq6 0 _) | refine qbl 2 (qfo a1 (by omega) _ b1 b2) ?_) <;> (try refine ev_ ?_)) | with_reducible exact ti_)
    ·refine qm (i + 1) [0, 1, 2] ⟨⟨by omega, by rw [hn]⟩, by omega⟩ rfl (by simp) ?_ ?_ ?_ <;> simp only [hn] <;> (try refine ev_ ?_) <;> (try with_reducible exact ti_) <;> (try simp (disch := omega) only [qb, and_true, true_and])
     all_goals rw [qt (by omega) (by omega), Int.natCast_add]; rfl
    ·exfalso; omega
   ·have hT : typA (appR t (s.getD i R0).ty) = .tup [encY (appR t (s.getD i R0).ty).1, .int .i64 (appR t (s.getD i R0).ty).2] := rfl
    have had : decide ((appR t (s.getD i R0).ty).2 = 0) = false := decide_eq_false ha
    rw [qlf hlt h0 ha]
    repeat' (first | refine vs_ ?_ | ((first | refine vr_ ?_ | fail) <;> (try simp (disch := first | omega | (simp only [List.length_set, List.length_append, List.length_cons, List.length_nil]; done) | (simp only [List.length_set, List.length_append, List.length_cons, List.length_nil]; omega)) only [hp, qb, had, go_sem, ↓reduceIte])) | ((first | simp (disch := omega) only [hp] | simp (disch := omega) only [hT] | (refine cs_ ?_ ?_ <;> intro hc) | refine cj_ ?_ | simp (disch := omega) only [encs_getN, qb] | refine qbl 1 (hA _ hm.1 hm.2) ?_ rfl rfl (by simp) rfl (qq6 0 _)) <;> (try refine ev_ ?_)) | with_reducible exact ti_)
    all_goals try (exfalso; omega)
    all_goals
     rw [newQ, if_neg ha]
     exact ⟨rfl, rfl⟩
set_option maxRecDepth 4000


section
variable {L : List Ent} {Q : List Ent → VO → Prop} {s t : List Pr}
theorem qbdj {l : List Pr} (hs : smlR l) (hl : l.length ≤ 100000) (hq : Q (L ++ [subE (newR l)]) (.val (.ptr L.length 0))) : VApp Tryz.prog L (.fn 18 [] []) [.sl 4 (q7 l)] Q :=
 qgr (qpq hs hl) rfl (by simp only [AV.bds, AV.bd, qb1, Bool.and_true]) hq
theorem qsq (a b : Nat) (hs : okS s) (ht : okS t) (h1 : s.length ≤ 40000) (h2 : t.length ≤ 40000) (hab : a ≠ b) (hq : if (behR s t).2 = 0 then Q (L ++ [subE (behR s t).1]) (.val (.tup [.ptr L.length 0, .int .i64 0])) else Q L (.val (.tup [.nilp, .int .i64 (behR s t).2])))
 (h0 : ent L a = subE s := by rfl) (h0' : ent L b = subE t := by rfl) (ha : a < L.length := by simp) (hb : b < L.length := by simp) : VApp Tryz.prog L (.fn 43 [] []) [.ptr a 0, .ptr b 0] Q := by
 refine qbv ?_
 rw [List.nil_append, List.append_nil]
 refine q9 [a, b] (q3d hs ht h1 h2) (by simp [hab]) ⟨⟨ha, rfl, by rw [h0]; rfl⟩, ⟨hb, rfl, by rw [h0']; rfl⟩, trivial⟩ rfl (by rfl) fun H1 o ho => ?_
 have e0 : (L.set a (subE s)).set b (subE t) = L := by
  rw [qb3 h0 ha, qb3 h0' hb]
 rw [newQ] at ho
 split at ho
 ·rename_i he
  rw [if_pos he] at hq
  obtain ⟨rfl, rfl⟩ := ho
  have e1 : qdy L [a, b] ([subE s, subE t] ++ [subE (behR s t).1]) = L ++ [subE (behR s t).1] := by
   show ((L.set a (subE s)).set b (subE t)) ++ [subE (behR s t).1] = _
   rw [e0]
  rw [e1]
  show Q _ (.val (.tup [.ptr (L.length + (2 - 2)) 0, .int .i64 0]))
  exact hq
 ·rename_i he
  rw [if_neg he] at hq
  obtain ⟨rfl, rfl⟩ := ho
  have e1 : qdy L [a, b] [subE s, subE t] = L := by
   show ((L.set a (subE s)).set b (subE t)) ++ [] = _
   rw [e0, List.append_nil]
  rw [e1]
  exact hq
theorem qu {f : FuncId} {e e' : Ent} {rest : List AV} {r : AV} (i : Nat) (h : VM Tryz.prog f e e' (.ptr 0 0 :: rest) r) (hrest : AV.bds 0 rest = true) (hr : r.bd 0 = true) (hq : Q (L.set i e') (.val r)) (hb : e.bd 0 = true := by rfl) (hb' : e'.bd 0 = true := by rfl) (hi : i < L.length := by simp) (he : ent L i = e := by rfl) :
 VApp Tryz.prog L (.fn f [] []) (.ptr i 0 :: rest) Q := by
 refine qbl i h hq hb hb' hi he hr ?_ ?_
 ·rw [List.append_nil, AV.rens, qp (m := 0) (fun j hj => by omega) rest hrest]; rfl
 ·rw [AV.bds, Bool.and_eq_true]
  exact ⟨rfl, qci (Nat.zero_le _) _ hrest⟩
theorem q5b {l : List Pr} (hs : smlR l) (hl : l.length ≤ 100000) (e : newR l = s) (hq : Q (L ++ [subE s]) (.val (.ptr L.length 0))) : VApp Tryz.prog L (.fn 18 [] []) [.sl 4 (q7 l)] Q := by
 subst e; exact qbdj hs hl hq
theorem qxr (a b : Nat) {r : List Pr} (hs : okS s) (ht : okS t) (h1 : s.length ≤ 40000) (h2 : t.length ≤ 40000) (hab : a ≠ b) (he : behR s t = (r, 0)) (hq : Q (L ++ [subE r]) (.val (.tup [.ptr L.length 0, .int .i64 0])))
 (h0 : ent L a = subE s := by rfl) (h0' : ent L b = subE t := by rfl) (ha : a < L.length := by simp) (hb : b < L.length := by simp) : VApp Tryz.prog L (.fn 43 [] []) [.ptr a 0, .ptr b 0] Q := by
 refine qsq a b hs ht h1 h2 hab ?_ h0 h0' ha hb
 rw [he, if_pos rfl]
 exact hq
theorem q7j (a b : Nat) {r : List Pr} {e : Int} (hs : okS s) (ht : okS t) (h1 : s.length ≤ 40000) (h2 : t.length ≤ 40000) (hab : a ≠ b) (he : behR s t = (r, e)) (hne : e ≠ 0) (hq : Q L (.val (.tup [.nilp, .int .i64 e])))
 (h0 : ent L a = subE s := by rfl) (h0' : ent L b = subE t := by rfl) (ha : a < L.length := by simp) (hb : b < L.length := by simp) : VApp Tryz.prog L (.fn 43 [] []) [.ptr a 0, .ptr b 0] Q := by
 refine qsq a b hs ht h1 h2 hab ?_ h0 h0' ha hb
 rw [he, if_neg hne]
 exact hq
theorem qig (hs : okS s) (hl : s.length ≤ 100000) {ty : Ty} (q1 : szY ty ≤ 20000) (q2 : dpY ty ≤ 300) : VM Tryz.prog 19 (subE s) (subE s) [.ptr 0 0, encY ty] (typA (appR s ty)) :=
 qpc (b := true) (R := bunR (subH s)) (fun v => qht hs.1 hl v) hs q1 q2
end
def wT : Ty := ⟨[84], 0, []⟩
def wU : Ty := ⟨[85], 0, []⟩
def wV : Ty := ⟨[86], 0, []⟩
def wB : Ty := ⟨[], 1, []⟩
def wR : Ty := ⟨[45, 62], 0, [wT, wB]⟩
def S1 : List Pr := [⟨0, wT⟩]
def S2 : List Pr := [⟨0, wT⟩, ⟨1, Y0⟩]
def S3 : List Pr := [⟨0, wV⟩]
def S4 : List Pr := [⟨0, wT⟩, ⟨1, wV⟩]
theorem w1 : newR [⟨0, wT⟩, ⟨0, wU⟩] = S1 := by rfl
theorem w3 : newR [⟨0, wV⟩] = S3 := by rfl
theorem S1_ok : okS S1 := w1 ▸ qqt _
theorem qbs2 : okS S3 := w3 ▸ qqt _
theorem w2 : setR S1 1 Y0 = (S2, 0) := by rfl
theorem qbdm : okS S2 := by have := qj8 S1_ok 1 Y0; rwa [w2] at this
theorem w4 : behR S2 S3 = (S4, 0) := by rfl
theorem S4_ok : okS S4 := by have := qpz qbdm qbs2; rwa [w4] at this
theorem k1 : VM Tryz.prog 36 (subE S1) (subE S1) [.ptr 0 0, .int .i64 0, encY wT] (.int .i64 6) := qfo S1_ok.1 (by decide) 0 (t := wT) (by decide) (by decide)
theorem k2 : VM Tryz.prog 36 (subE S1) (subE S2) [.ptr 0 0, .int .i64 1, encY Y0] (.int .i64 0) := qfo S1_ok.1 (by decide) 1 (t := Y0) (by decide) (by decide)
theorem k4 : VM Tryz.prog 25 (subE S4) (subE S4) [.ptr 0 0, .int .i64 1] (.tup [encY wV, .bool true]) := qht S4_ok.1 (by decide) 1
theorem k5 : VM Tryz.prog 12 (subE S2) (subE S2) [.ptr 0 0] (.sl 4 (q7 S2)) := qeu (by decide) (qhn qbdm)
theorem w6 : qbo1 [1] S2 = [⟨1, Y0⟩] := by rfl
theorem k6 : VM Tryz.prog 12 (subE [⟨1, Y0⟩]) (subE [⟨1, Y0⟩]) [.ptr 0 0] (.sl 4 (q7 [⟨1, Y0⟩])) := qeu (by decide) (qhn (by have := q1m qbdm [1]; rwa [w6] at this))
theorem k7 : qn Tryz.prog 64 [encY wR] (.str [84, 32, 45, 62, 32, 98]) := qln (t := wR) (by decide) (by decide) (by decide)
end Go.Proofs.YtlahgbhhejkgbaaGreat
