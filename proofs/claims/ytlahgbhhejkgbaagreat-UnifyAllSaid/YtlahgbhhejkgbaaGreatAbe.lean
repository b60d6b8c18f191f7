/- Texts of this proof, joined. -/
import Derived.Test.YtlahgbhhejkgbaaGreatAbc
import Derived.Test.YtlahgbhhejkgbaaGreatAbd
import Derived.Test.YtlahgbhhejkgbaaGreatAaw

/- substitutions: new ones, types and their pairs -/
set_option maxRecDepth 4000
namespace Go.Proofs.YtlahgbhhejkgbaaGreat
open Go Go.RowKit Go.V
set_option linter.unusedVariables false
set_option linter.unusedSimpArgs false

theorem qh6 {l : List Pr} {i : Nat} (h : i < l.length) : l.take (i + 1) = l.take i ++ [l.getD i R0] := by
 rw [List.take_add_one, List.getD_eq_getElem?_getD, List.getElem?_eq_getElem h]; rfl
def smlR (l : List Pr) : Prop := ∀ p ∈ l, szY p.ty ≤ 20000 ∧ dpY p.ty ≤ 300
theorem qql {l : List Pr} (hs : smlR l) (hl : l.length ≤ 100000) : VCalls Tryz.prog 18 [] [.sl 4 (qt l)] fun H' o => H' = [subE (newR l)] ∧ o = .val (.ptr 0 0) := by
 refine qg c0t 1 (by simp) (by simp) ?_
 repeat' (first | refine vs_ ?_ | ((first | refine vr_ ?_ | (refine cs_ ?_ ?_ <;> intro hc) | refine cj_ ?_ | simp (disch := omega) only [encs_getN, qb]) <;> (try refine ev_ ?_)) | with_reducible exact ti_)
 refine qsa 0 rfl rfl ?_
 refine qq (S := Nat) (fun i => i ≤ l.length) (fun i => (⟨[(3, .ptr 0 0), (8, .sl 4 (qt l)), (9, .int .i64 l.length), (10, .int .i64 i)], []⟩, [subE (newR (l.take i))])) (fun i => l.length - i) ?_ fun i hi => ?_
 ·refine qh 0 [0] (Nat.zero_le _) rfl (by simp) ?_ ?_ ?_ <;> simp only [List.take_zero, newR, addR, qi8] <;> (try refine ev_ ?_) <;> (try with_reducible exact ti_) <;> (try simp (disch := omega) only [qb, and_true, true_and])
  all_goals rfl
 ·by_cases hlt : i < l.length
  ·have hok := qrl (l.take i)
   have hln := q4e (l.take i)
   rw [List.length_take] at hln
   have hm := hs _ (qdv hlt)
   have hn : newR (l.take (i + 1)) = (setR (newR (l.take i)) (l.getD i R0).v (l.getD i R0).ty).1 := by rw [qh6 hlt, newR, qkm]; rfl
   have hp := qn hlt
   repeat' (first | refine vs_ ?_ | ((first | refine vr_ ?_ | fail) <;> (try simp (disch := first | omega | (simp only [List.length_set, List.length_append, List.length_cons, List.length_nil]; done) | (simp only [List.length_set, List.length_append, List.length_cons, List.length_nil]; omega)) only [hp, qb, go_sem, ↓reduceIte])) | ((first | simp (disch := omega) only [hp] | (refine cs_ ?_ ?_ <;> intro hc) | refine cj_ ?_ | simp (disch := omega) only [encs_getN, qb] | refine qbt 0 (qgc hok.1 (by omega) _ hm.1 hm.2) ?_) <;> (try refine ev_ ?_)) | with_reducible exact ti_)
   ·refine qh (i + 1) [0] ⟨by omega, by omega⟩ rfl (by simp) ?_ ?_ ?_ <;> simp only [hn] <;> (try refine ev_ ?_) <;> (try with_reducible exact ti_) <;> (try simp (disch := omega) only [qb, and_true, true_and])
    all_goals rw [qv (by omega) (by omega), Int.natCast_add]; rfl
   ·exfalso; omega
  ·have hie : i = l.length := by omega
   subst hie
   rw [List.take_length]
   repeat' (first | refine vs_ ?_ | ((first | refine vr_ ?_ | (refine cs_ ?_ ?_ <;> intro hc) | refine cj_ ?_ | simp (disch := omega) only [encs_getN, qb]) <;> (try refine ev_ ?_)) | with_reducible exact ti_)
   all_goals (exfalso; omega)
set_option maxRecDepth 4000

theorem qp3 {R : World → (Nat → Nat → Prop) → Gh → Prop} {b : Bool} {s : List Pr} (hG : ∀ v, VM Tryz.prog 25 (.cus R) (.cus R) [svA b 0, .int .i64 v] (getV s v)) (hs : okS s) {t : Ty} (h1 : szY t ≤ 20000) (h2 : dpY t ≤ 300) :
 VM Tryz.prog 19 (.cus R) (.cus R) [svA b 0, encY t] (typA (appR s t)) := by
 refine qg c0s 1 (by simp) (by simp) ?_
 have hLg := qc6 h1 h2
 rw [← qblm hs]
 by_cases hlg : qd t = true
 ·obtain ⟨q1, q2, q3⟩ := (qr t).1 hlg
  have hput := qbfo hG (qmu hs) t (qcw t q3) h1 4096 1 (by omega) (by omega) (by omega) (by omega)
  rw [hlg] at hLg
  by_cases hn : (bput s t 4096 1).1 < 0
  ·have hnd : decide ((bput s t 4096 1).1 < 0) = true := decide_eq_true hn
   rw [appP, if_pos hlg, if_pos hn]
   repeat' (first | refine vs_ ?_ | ((first | refine vr_ ?_ | fail) <;> (try simp only [hnd, go_sem, ↓reduceIte])) | ((first | (refine cs_ ?_ ?_ <;> intro hc) | refine cj_ ?_ | fail | refine qa hLg fun _ => ?_ | refine qrc 3 0 hput (by simp) ?_) <;> (try refine ev_ ?_)) | with_reducible exact ti_)
   all_goals rfl
  ·have hnd : decide ((bput s t 4096 1).1 < 0) = false := decide_eq_false hn
   rw [appP, if_pos hlg, if_neg hn]
   repeat' (first | refine vs_ ?_ | ((first | refine vr_ ?_ | fail) <;> (try simp only [hnd, go_sem, ↓reduceIte])) | ((first | (refine cs_ ?_ ?_ <;> intro hc) | refine cj_ ?_ | fail | refine qa hLg fun _ => ?_ | refine qrc 3 0 hput (by simp) ?_) <;> (try refine ev_ ?_)) | with_reducible exact ti_)
   all_goals rfl
 ·rw [appP, if_neg hlg]
  have hlg : qd t = false := by simpa using hlg
  rw [hlg] at hLg
  repeat' (first | refine vs_ ?_ | ((first | refine vr_ ?_ | refine qa hLg fun _ => ?_ | (refine cs_ ?_ ?_ <;> intro hc) | refine cj_ ?_ | fail) <;> (try refine ev_ ?_)) | with_reducible exact ti_)
  all_goals rfl
set_option maxRecDepth 4000

def zR : AV := .agg [.int .i64 0, .str [], .int .i64 0, .nils]
def cpR (l : List Pr) (i : Nat) : List AV := qt (l.take i) ++ List.replicate (l.length - i) zR
theorem qbh3 {l : List Pr} {i : Nat} (h : i ≤ l.length) : (cpR l i).length = l.length := by
 rw [cpR, List.length_append, q6, List.length_take, List.length_replicate]; omega
theorem qbrm (l : List Pr) : cpR l 0 = List.replicate l.length zR := by rw [cpR, List.take_zero, qco, Nat.sub_zero]; rfl
theorem qbh2 (l : List Pr) : cpR l l.length = qt l := by rw [cpR, List.take_length, Nat.sub_self, List.replicate_zero, List.append_nil]
theorem qww {l : List Pr} {i : Nat} (h : i < l.length) : (cpR l i).set i (encR (l.getD i R0)) = cpR l (i + 1) := by
 have h2 : (qt (l.take i)).length = i := by rw [q6, List.length_take]; omega
 obtain ⟨k, hk⟩ : ∃ k, l.length - i = k + 1 := ⟨l.length - i - 1, by omega⟩
 have hk2 : l.length - (i + 1) = k := by omega
 rw [cpR, cpR, hk, hk2, List.replicate_succ, qh6 h, ← qhv, List.set_append_right _ _ (by omega), h2, Nat.sub_self, List.set_cons_zero, List.append_assoc]
 rfl
theorem qs6 (k : Nat) (l : List Pr) (i : Nat) : AV.bds k (cpR l i) = true := by
 rw [cpR, qh9, qby, qdj]
 simp [zR, AV.bd, AV.bds]
theorem qq9 (σ : Nat → Nat) (l : List Pr) (i : Nat) : AV.rens σ (cpR l i) = cpR l i := qw (m := 0) (fun i hi => by omega) _ (qs6 0 l i)
attribute [go_sem] qs6 qq9
theorem q0z : VCalls Tryz.prog 12 [.blk [.nils]] [.ptr 0 0] (qct fun H' o => H' = [subE []] ∧ o = .val (.sl 4 (qt []))) := by
 refine qg c0r 1 (by simp) (by simp) ?_
 repeat' (first | refine vs_ ?_ | ((first | refine vr_ ?_ | (refine cs_ ?_ ?_ <;> intro hc) | refine cj_ ?_ | simp (disch := omega) only [encs_getN, qb]) <;> (try refine ev_ ?_)) | with_reducible exact ti_)
 refine qq (S := Unit) (fun _ => True) (fun _ => (⟨[(3, .row 1 0), (18, .int .i64 (0 : Nat)), (19, .int .i64 (0 : Nat))], []⟩, [.blk [.nils], .mrow 4 []])) (fun _ => 0) ?_ fun x hx => ?_
 ·refine qh () [0, 1] trivial rfl (by simp) ?_ ?_ ?_ <;> (try refine ev_ ?_) <;> (try with_reducible exact ti_) <;> (try simp (disch := omega) only [qb, and_true, true_and])
  all_goals rfl
 ·refine qfh 1 rfl (fun v hv => by simp at hv) ?_
  repeat' (first | refine vs_ ?_ | ((first | refine vr_ ?_ | (refine cs_ ?_ ?_ <;> intro hc) | refine cj_ ?_ | simp (disch := omega) only [encs_getN, qb]) <;> (try refine ev_ ?_)) | with_reducible exact ti_)
  ·exact absurd hc (by omega)
  ·exact qge rfl (by simp) rfl ⟨rfl, rfl⟩
theorem q1t {s : List Pr} (hs : s ≠ []) (hl : s.length ≤ 100000) (ho : smlR s) : VCalls Tryz.prog 12 [.blk [.row 1 s.length], qca s] [.ptr 0 0] (qct fun H' o => H' = [subE s] ∧ o = .val (.sl 4 (qt s))) := by
 refine qg c0r 2 (by simp) (by simp) ?_
 repeat' (first | refine vs_ ?_ | ((first | refine vr_ ?_ | (refine cs_ ?_ ?_ <;> intro hc) | refine cj_ ?_ | simp (disch := omega) only [encs_getN, qb]) <;> (try refine ev_ ?_)) | with_reducible exact ti_)
 have hm : s.length ≤ maxLen := by unfold maxLen; omega
 refine ⟨hm, ⟨by omega, by omega⟩, ?_⟩
 repeat' (first | refine vs_ ?_ | ((first | refine vr_ ?_ | (refine cs_ ?_ ?_ <;> intro hc) | refine cj_ ?_ | simp (disch := omega) only [encs_getN, qb]) <;> (try refine ev_ ?_)) | with_reducible exact ti_)
 refine qq (S := Nat) (fun i => i ≤ s.length) (fun i => (⟨[(3, .row 2 s.length), (17, .row 1 s.length), (18, .int .i64 s.length), (19, .int .i64 i)], []⟩, [.blk [.row 1 s.length], qca s, .mrow 4 (cpR s i)])) (fun i => s.length - i) ?_ fun i hi => ?_
 ·refine qh 0 [0, 1, 2] (Nat.zero_le _) rfl (by simp) ?_ ?_ ?_ <;> simp only [qbrm, zR] <;> (try refine ev_ ?_) <;> (try with_reducible exact ti_) <;> (try simp (disch := omega) only [qb, and_true, true_and])
  all_goals
   rw [show List.replicate s.length (AV.agg [AV.int .i64 0, AV.str [], AV.int .i64 0, AV.nils]) = cpR s 0 from (qbrm _).symm]
   exact ⟨qs6 _ _ _, by rw [qq9]⟩
 ·by_cases hlt : i < s.length
  ·have hp := qn hlt
   have hc := qbh3 hi
   have hcp := qdy (s.getD i R0).ty (by have := (ho _ (qdv hlt)).1; omega)
   repeat' (first | refine vs_ ?_ | ((first | refine vr_ ?_ | fail) <;> (try simp (disch := first | omega | (simp only [List.length_set, List.length_append, List.length_cons, List.length_nil]; done) | (simp only [List.length_set, List.length_append, List.length_cons, List.length_nil]; omega)) only [hp, qb, go_sem, ↓reduceIte])) | ((first | simp (disch := omega) only [hp] | (refine cs_ ?_ ?_ <;> intro hc) | refine cj_ ?_ | simp (disch := omega) only [encs_getN, qb] | refine qa hcp fun _ => ?_ | refine qc hcp ?_) <;> (try refine ev_ ?_)) | with_reducible exact ti_)
   ·refine qh (i + 1) [0, 1, 2] ⟨by omega, by omega⟩ rfl (by simp) ?_ ?_ ?_ <;> simp only [← qww hlt] <;> (try refine ev_ ?_) <;> (try with_reducible exact ti_) <;> (try simp (disch := omega) only [qb, and_true, true_and])
    all_goals (rw [qww hlt]; exact ⟨qs6 _ _ _, by rw [qq9]⟩)
   ·exfalso; omega
  ·have hie : i = s.length := by omega
   subst hie
   rw [qbh2]
   refine qfh 2 rfl (qmi _) ?_
   repeat' (first | refine vs_ ?_ | ((first | refine vr_ ?_ | (refine cs_ ?_ ?_ <;> intro hc) | refine cj_ ?_ | simp (disch := omega) only [encs_getN, qb]) <;> (try refine ev_ ?_)) | with_reducible exact ti_)
   all_goals try (exfalso; omega)
   all_goals exact qdm 1 hs rfl rfl (by simp) (by simp) (by simp [AV.bd, qby]) ⟨rfl, rfl⟩
theorem qed {s : List Pr} (hl : s.length ≤ 100000) (ho : smlR s) : VM Tryz.prog 12 (subE s) (subE s) [.ptr 0 0] (.sl 4 (qt s)) := by
 by_cases hs : s = []
 ·subst hs
  exact qf7 (by rw [qi8]; exact q0z) rfl
 ·exact qf7 (by have := q1t hs hl ho; rwa [← qn5 hs] at this) rfl

section
variable {P : Program} {f : FuncId} {e : Ent} {L : List Ent} {args : List AV} {Q : List Ent → VO → Prop}
theorem qht (h : VCalls P f [] args fun H' o => H' = [e] ∧ o = .val (.ptr 0 0)) (hb : e.bd 0 = true) (ha : AV.bds 0 args = true) (hq : Q (L ++ [e]) (.val (.ptr L.length 0))) : VApp P L (.fn f [] []) args Q := by
 refine q35 h ha fun H1 o ho => ?_
 obtain ⟨rfl, rfl⟩ := ho
 have e1 : qeo L [] [e] = L ++ [e] := by
  show L ++ [e.ren _] = _
  rw [Ent.ren_bd0 hb]
 rw [e1]
 exact hq
end
theorem qgi {s : List Pr} (h : okS s) : smlR s := fun p hp => by
 have := (qr _).1 (h.2 p hp)
 omega
theorem qi7 : VCalls Tryz.prog 18 [] [.sl 4 []] fun H' o => H' = [subE []] ∧ o = .val (.ptr 0 0) := qql (l := []) (fun p hp => by simp at hp) (by simp)
set_option maxRecDepth 4000

theorem qka (t : List Pr) (b : List Pr) : ∀ (a acc : List Pr), (qbw t acc a).2 = 0 → qbw t acc (a ++ b) = qbw t (qbw t acc a).1 b
 | [], acc, _ => rfl
 | p :: r, acc, h => by
   rw [qbw] at h
   rw [List.cons_append, qbw, qbw]
   split at h
   ·rename_i h0
    rw [if_pos h0, if_pos h0, qka t b r _ h]
   ·rename_i h0
    exact absurd h h0
theorem qnq {t : List Pr} : ∀ (a : List Pr) {acc : List Pr}, okS acc → okS (qbw t acc a).1
 | [], _, h => h
 | p :: r, acc, h => by
   rw [qbw]
   split
   ·exact qnq r (qmv h _ _)
   ·exact qck
theorem qkr (t : List Pr) : ∀ (a acc : List Pr), (qbw t acc a).1.length ≤ acc.length + a.length
 | [], acc => by simp [qbw]
 | p :: r, acc => by
   rw [qbw, List.length_cons]
   split
   ·have h1 := qkr t r (setR acc p.v (appR t p.ty).1).1
    have h2 := qn1 acc p.v (appR t p.ty).1
    omega
   ·simp
theorem qbns {s t : List Pr} (hs : okS s) (ht : okS t) : behR s t = if (qbw t [] s).2 = 0 then (addR (qbw t [] s).1 t, 0) else ([], (qbw t [] s).2) := by
 rw [behR, ← qsn ht s [] hs.1 (fun p hp => by simp at hp)]
theorem q16 {s t : List Pr} {i : Nat} (h : i < s.length) (h0 : (qbw t [] (s.take i)).2 = 0) : qbw t [] s = qbw t (qbw t [] (s.take i)).1 (s.getD i R0 :: s.drop (i + 1)) := by
 have := qka t (s.drop i) (s.take i) [] h0
 rwa [List.take_append_drop, q0b h] at this
theorem qtj {s t : List Pr} {i : Nat} (h : i < s.length) (h0 : (qbw t [] (s.take i)).2 = 0) (ha : (appR t (s.getD i R0).ty).2 = 0) : qbw t [] (s.take (i + 1)) = ((setR (qbw t [] (s.take i)).1 (s.getD i R0).v (appR t (s.getD i R0).ty).1).1, 0) := by
 rw [qh6 h, qka t _ _ _ h0, qbw, if_pos ha, qbw]
theorem qly {s t : List Pr} {i : Nat} (h : i < s.length) (h0 : (qbw t [] (s.take i)).2 = 0) (ha : (appR t (s.getD i R0).ty).2 ≠ 0) : qbw t [] s = ([], (appR t (s.getD i R0).ty).2) := by
 rw [q16 h h0, qbw, if_neg ha]
def newQ (L : List Ent) (p : List Pr × Int) (H' : List Ent) (o : VO) : Prop :=
 if p.2 = 0 then H' = L ++ [subE p.1] ∧ o = .val (.tup [.ptr L.length 0, .int .i64 0]) else H' = L ∧ o = .val (.tup [.nilp, .int .i64 p.2])
theorem q27 {s t : List Pr} (hs : okS s) (ht : okS t) (h1 : s.length ≤ 40000) (h2 : t.length ≤ 40000) : VCalls Tryz.prog 43 [subE s, subE t] [.ptr 0 0, .ptr 1 0] (newQ [subE s, subE t] (behR s t)) := by
 have hms := qgi hs
 have hmt := qgi ht
 have hA : ∀ ty, szY ty ≤ 20000 → dpY ty ≤ 300 → VM Tryz.prog 19 (subE t) (subE t) [.ptr 0 0, encY ty] (typA (appR t ty)) := fun ty q1 q2 => qp3 (b := true) (R := bunR (subH t)) (fun v => qh1 ht.1 (by omega) v) ht q1 q2
 have hstep : ∀ i, i < s.length → (qbw t [] (s.take i)).2 = 0 → risR (qbw t [] (s.take i)).1 ∧ (qbw t [] (s.take i)).1.length ≤ 40000 := fun i hi h0 => by
  have := qkr t (s.take i) []
  rw [List.length_take] at this
  exact ⟨(qnq (s.take i) qck).1, by simp at this; omega⟩
 have hap : ∀ i, i < s.length → (appR t (s.getD i R0).ty).2 = 0 → szY (appR t (s.getD i R0).ty).1 ≤ 20000 ∧ dpY (appR t (s.getD i R0).ty).1 ≤ 300 := fun i hi h0 => by
  obtain ⟨_, q2, q3⟩ := qbq ht h0
  rw [q3]
  have := (qr _).1 q2
  omega
 rw [qbns hs ht]
 by_cases he : (qbw t [] s).2 = 0
 ·rw [if_pos he]
  refine qg c0q 3 (by simp) (by simp) ?_
  repeat' (first | refine vs_ ?_ | ((first | refine vr_ ?_ | refine qht qi7 rfl rfl ?_ | refine qbt 0 (qed (by omega) hms) ?_ | (refine cs_ ?_ ?_ <;> intro hc) | refine cj_ ?_ | simp (disch := omega) only [encs_getN, qb]) <;> (try refine ev_ ?_)) | with_reducible exact ti_)
  refine qq (S := Nat) (fun i => i ≤ s.length ∧ (qbw t [] (s.take i)).2 = 0) (fun i => (⟨[(1, .ptr 1 0), (6, .ptr 2 0), (15, .sl 4 (qt s)), (16, .int .i64 s.length), (17, .int .i64 i)], []⟩, [subE s, subE t, subE (qbw t [] (s.take i)).1])) (fun i => s.length - i) ?_ fun i hi => ?_
  ·refine qh 0 [0, 1, 2] ⟨Nat.zero_le _, rfl⟩ rfl (by simp) ?_ ?_ ?_ <;> simp only [List.take_zero, qbw] <;> (try refine ev_ ?_) <;> (try with_reducible exact ti_) <;> (try simp (disch := omega) only [qb, and_true, true_and])
  ·obtain ⟨hi, h0⟩ := hi
   by_cases hlt : i < s.length
   ·have hp := qn hlt
    have hm := hms _ (qdv hlt)
    obtain ⟨a1, a2⟩ := hstep i hlt h0
    by_cases ha : (appR t (s.getD i R0).ty).2 = 0
    ·obtain ⟨b1, b2⟩ := hap i hlt ha
     have hn := qtj hlt h0 ha
     have hT : typA (appR t (s.getD i R0).ty) = .tup [encY (appR t (s.getD i R0).ty).1, .int .i64 0] := by rw [typA, ha]
     repeat' (first | refine vs_ ?_ | ((first | refine vr_ ?_ | fail) <;> (try simp (disch := first | omega | (simp only [List.length_set, List.length_append, List.length_cons, List.length_nil]; done) | (simp only [List.length_set, List.length_append, List.length_cons, List.length_nil]; omega)) only [hp, qb, go_sem, ↓reduceIte])) | ((first | simp (disch := omega) only [hp] | simp (disch := omega) only [hT] | (refine cs_ ?_ ?_ <;> intro hc) | refine cj_ ?_ | simp (disch := omega) only [encs_getN, qb] | refine qbt 1 (hA _ hm.1 hm.2) ?_ rfl rfl (by simp) rfl (qmt 0 _) | refine qbt 2 (qgc a1 (by omega) _ b1 b2) ?_) <;> (try refine ev_ ?_)) | with_reducible exact ti_)
     ·refine qh (i + 1) [0, 1, 2] ⟨⟨by omega, by rw [hn]⟩, by omega⟩ rfl (by simp) ?_ ?_ ?_ <;> simp only [hn] <;> (try refine ev_ ?_) <;> (try with_reducible exact ti_) <;> (try simp (disch := omega) only [qb, and_true, true_and])
      all_goals rw [qv (by omega) (by omega), Int.natCast_add]; rfl
     ·exfalso; omega
    ·exact absurd (by rw [qly hlt h0 ha] at he; exact he) ha
   ·have hie : i = s.length := by omega
    subst hie
    rw [List.take_length]
    have hok : okS (qbw t [] s).1 := qnq s qck
    have hln := qkr t s []
    simp only [List.length_nil, Nat.zero_add] at hln
    repeat' (first | refine vs_ ?_ | ((first | refine vr_ ?_ | refine qbt 1 (qed (by omega) hmt) ?_ | (refine cs_ ?_ ?_ <;> intro hc) | refine cj_ ?_ | simp (disch := omega) only [encs_getN, qb]) <;> (try refine ev_ ?_)) | with_reducible exact ti_)
    ·exfalso; omega
    ·generalize (qbw t [] s).1 = a at hok hln ⊢
     refine qq (S := Nat) (fun i => i ≤ t.length) (fun i => (⟨[(6, .ptr 2 0), (38, .sl 4 (qt t)), (39, .int .i64 t.length), (40, .int .i64 i)], []⟩, [subE s, subE t, subE (addR a (t.take i))])) (fun i => t.length - i) ?_ fun i hi => ?_
     ·refine qh 0 [0, 1, 2] (Nat.zero_le _) rfl (by simp) ?_ ?_ ?_ <;> simp only [List.take_zero, addR] <;> (try refine ev_ ?_) <;> (try with_reducible exact ti_) <;> (try simp (disch := omega) only [qb, and_true, true_and])
     ·by_cases hlt : i < t.length
      ·have hp := qn hlt
       have hm := hmt _ (qdv hlt)
       have hq := qnr (t.take i) hok
       have hql := qjb (t.take i) a
       rw [List.length_take] at hql
       have hn := qoe hlt a
       repeat' (first | refine vs_ ?_ | ((first | refine vr_ ?_ | fail) <;> (try simp (disch := first | omega | (simp only [List.length_set, List.length_append, List.length_cons, List.length_nil]; done) | (simp only [List.length_set, List.length_append, List.length_cons, List.length_nil]; omega)) only [hp, qb, go_sem, ↓reduceIte])) | ((first | simp (disch := omega) only [hp] | (refine cs_ ?_ ?_ <;> intro hc) | refine cj_ ?_ | simp (disch := omega) only [encs_getN, qb] | refine qbt 2 (qgc hq.1 (by omega) _ hm.1 hm.2) ?_) <;> (try refine ev_ ?_)) | with_reducible exact ti_)
       ·refine qh (i + 1) [0, 1, 2] ⟨by omega, by omega⟩ rfl (by simp) ?_ ?_ ?_ <;> simp only [hn] <;> (try refine ev_ ?_) <;> (try with_reducible exact ti_) <;> (try simp (disch := omega) only [qb, and_true, true_and])
        all_goals rw [qv (by omega) (by omega), Int.natCast_add]; rfl
      ·have hie : i = t.length := by omega
       subst hie
       rw [List.take_length]
       repeat' (first | refine vs_ ?_ | ((first | refine vr_ ?_ | (refine cs_ ?_ ?_ <;> intro hc) | refine cj_ ?_ | simp (disch := omega) only [encs_getN, qb]) <;> (try refine ev_ ?_)) | with_reducible exact ti_)
       all_goals try (exfalso; omega)
       all_goals
        rw [newQ, if_pos rfl]
        exact ⟨rfl, rfl⟩
 ·rw [if_neg he]
  refine qg c0q 2 (by simp) (by simp) ?_
  repeat' (first | refine vs_ ?_ | ((first | refine vr_ ?_ | refine qht qi7 rfl rfl ?_ | refine qbt 0 (qed (by omega) hms) ?_ | (refine cs_ ?_ ?_ <;> intro hc) | refine cj_ ?_ | simp (disch := omega) only [encs_getN, qb]) <;> (try refine ev_ ?_)) | with_reducible exact ti_)
  refine qq (S := Nat) (fun i => i ≤ s.length ∧ (qbw t [] (s.take i)).2 = 0) (fun i => (⟨[(1, .ptr 1 0), (6, .ptr 2 0), (15, .sl 4 (qt s)), (16, .int .i64 s.length), (17, .int .i64 i)], []⟩, [subE s, subE t, subE (qbw t [] (s.take i)).1])) (fun i => s.length - i) ?_ fun i hi => ?_
  ·refine qh 0 [0, 1, 2] ⟨Nat.zero_le _, rfl⟩ rfl (by simp) ?_ ?_ ?_ <;> simp only [List.take_zero, qbw] <;> (try refine ev_ ?_) <;> (try with_reducible exact ti_) <;> (try simp (disch := omega) only [qb, and_true, true_and])
  ·obtain ⟨hi, h0⟩ := hi
   have hlt : i < s.length := by
    by_cases hlt : i < s.length
    ·exact hlt
    ·rw [List.take_of_length_le (by omega)] at h0
     exact absurd h0 he
   have hp := qn hlt
   have hm := hms _ (qdv hlt)
   obtain ⟨a1, a2⟩ := hstep i hlt h0
   by_cases ha : (appR t (s.getD i R0).ty).2 = 0
   ·obtain ⟨b1, b2⟩ := hap i hlt ha
    have hn := qtj hlt h0 ha
    have hT : typA (appR t (s.getD i R0).ty) = .tup [encY (appR t (s.getD i R0).ty).1, .int .i64 0] := by rw [typA, ha]
    repeat' (first | refine vs_ ?_ | ((first | refine vr_ ?_ | fail) <;> (try simp (disch := first | omega | (simp only [List.length_set, List.length_append, List.length_cons, List.length_nil]; done) | (simp only [List.length_set, List.length_append, List.length_cons, List.length_nil]; omega)) only [hp, qb, go_sem, ↓reduceIte])) | ((first | simp (disch := omega) only [hp] | simp (disch := omega) only [hT] | (refine cs_ ?_ ?_ <;> intro hc) | refine cj_ ?_ | simp (disch := omega) only [encs_getN, qb] | refine qbt 1 (hA _ hm.1 hm.2) ?_ rfl rfl (by simp) rfl (qmt 0 _) | refine qbt 2 (qgc a1 (by omega) _ b1 b2) ?_) <;> (try refine ev_ ?_)) | with_reducible exact ti_)
    ·refine qh (i + 1) [0, 1, 2] ⟨⟨by omega, by rw [hn]⟩, by omega⟩ rfl (by simp) ?_ ?_ ?_ <;> simp only [hn] <;> (try refine ev_ ?_) <;> (try with_reducible exact ti_) <;> (try simp (disch := omega) only [qb, and_true, true_and])
     all_goals rw [qv (by omega) (by omega), Int.natCast_add]; rfl
    ·exfalso; omega
   ·have hT : typA (appR t (s.getD i R0).ty) = .tup [encY (appR t (s.getD i R0).ty).1, .int .i64 (appR t (s.getD i R0).ty).2] := rfl
    have had : decide ((appR t (s.getD i R0).ty).2 = 0) = false := decide_eq_false ha
    rw [qly hlt h0 ha]
    repeat' (first | refine vs_ ?_ | ((first | refine vr_ ?_ | fail) <;> (try simp (disch := first | omega | (simp only [List.length_set, List.length_append, List.length_cons, List.length_nil]; done) | (simp only [List.length_set, List.length_append, List.length_cons, List.length_nil]; omega)) only [hp, qb, had, go_sem, ↓reduceIte])) | ((first | simp (disch := omega) only [hp] | simp (disch := omega) only [hT] | (refine cs_ ?_ ?_ <;> intro hc) | refine cj_ ?_ | simp (disch := omega) only [encs_getN, qb] | refine qbt 1 (hA _ hm.1 hm.2) ?_ rfl rfl (by simp) rfl (qmt 0 _)) <;> (try refine ev_ ?_)) | with_reducible exact ti_)
    all_goals try (exfalso; omega)
    all_goals
     rw [newQ, if_neg ha]
     exact ⟨rfl, rfl⟩
set_option maxRecDepth 4000


section
variable {L : List Ent} {Q : List Ent → VO → Prop} {s t : List Pr}
theorem qbjd {l : List Pr} (hs : smlR l) (hl : l.length ≤ 100000) (hq : Q (L ++ [subE (newR l)]) (.val (.ptr L.length 0))) : VApp Tryz.prog L (.fn 18 [] []) [.sl 4 (qt l)] Q :=
 qht (qql hs hl) rfl (by simp only [AV.bds, AV.bd, qby, Bool.and_true]) hq
theorem qtb (a b : Nat) (hs : okS s) (ht : okS t) (h1 : s.length ≤ 40000) (h2 : t.length ≤ 40000) (hab : a ≠ b) (hq : if (behR s t).2 = 0 then Q (L ++ [subE (behR s t).1]) (.val (.tup [.ptr L.length 0, .int .i64 0])) else Q L (.val (.tup [.nilp, .int .i64 (behR s t).2])))
 (h0 : ent L a = subE s := by rfl) (h0' : ent L b = subE t := by rfl) (ha : a < L.length := by simp) (hb : b < L.length := by simp) : VApp Tryz.prog L (.fn 43 [] []) [.ptr a 0, .ptr b 0] Q := by
 refine qb7 ?_
 rw [List.nil_append, List.append_nil]
 refine qbd [a, b] (q27 hs ht h1 h2) (by simp [hab]) ⟨⟨ha, rfl, by rw [h0]; rfl⟩, ⟨hb, rfl, by rw [h0']; rfl⟩, trivial⟩ rfl (by rfl) fun H1 o ho => ?_
 have e0 : (L.set a (subE s)).set b (subE t) = L := by
  rw [qch h0 ha, qch h0' hb]
 rw [newQ] at ho
 split at ho
 ·rename_i he
  rw [if_pos he] at hq
  obtain ⟨rfl, rfl⟩ := ho
  have e1 : qeo L [a, b] ([subE s, subE t] ++ [subE (behR s t).1]) = L ++ [subE (behR s t).1] := by
   show ((L.set a (subE s)).set b (subE t)) ++ [subE (behR s t).1] = _
   rw [e0]
  rw [e1]
  show Q _ (.val (.tup [.ptr (L.length + (2 - 2)) 0, .int .i64 0]))
  exact hq
 ·rename_i he
  rw [if_neg he] at hq
  obtain ⟨rfl, rfl⟩ := ho
  have e1 : qeo L [a, b] [subE s, subE t] = L := by
   show ((L.set a (subE s)).set b (subE t)) ++ [] = _
   rw [e0, List.append_nil]
  rw [e1]
  exact hq
theorem qy {f : FuncId} {e e' : Ent} {rest : List AV} {r : AV} (i : Nat) (h : VM Tryz.prog f e e' (.ptr 0 0 :: rest) r) (hrest : AV.bds 0 rest = true) (hr : r.bd 0 = true) (hq : Q (L.set i e') (.val r)) (hb : e.bd 0 = true := by rfl) (hb' : e'.bd 0 = true := by rfl) (hi : i < L.length := by simp) (he : ent L i = e := by rfl) :
 VApp Tryz.prog L (.fn f [] []) (.ptr i 0 :: rest) Q := by
 refine qbt i h hq hb hb' hi he hr ?_ ?_
 ·rw [List.append_nil, AV.rens, qw (m := 0) (fun j hj => by omega) rest hrest]; rfl
 ·rw [AV.bds, Bool.and_eq_true]
  exact ⟨rfl, qcx (Nat.zero_le _) _ hrest⟩
theorem q7r {l : List Pr} (hs : smlR l) (hl : l.length ≤ 100000) (e : newR l = s) (hq : Q (L ++ [subE s]) (.val (.ptr L.length 0))) : VApp Tryz.prog L (.fn 18 [] []) [.sl 4 (qt l)] Q := by
 subst e; exact qbjd hs hl hq
theorem qy5 (a b : Nat) {r : List Pr} (hs : okS s) (ht : okS t) (h1 : s.length ≤ 40000) (h2 : t.length ≤ 40000) (hab : a ≠ b) (he : behR s t = (r, 0)) (hq : Q (L ++ [subE r]) (.val (.tup [.ptr L.length 0, .int .i64 0])))
 (h0 : ent L a = subE s := by rfl) (h0' : ent L b = subE t := by rfl) (ha : a < L.length := by simp) (hb : b < L.length := by simp) : VApp Tryz.prog L (.fn 43 [] []) [.ptr a 0, .ptr b 0] Q := by
 refine qtb a b hs ht h1 h2 hab ?_ h0 h0' ha hb
 rw [he, if_pos rfl]
 exact hq
theorem q8l (a b : Nat) {r : List Pr} {e : Int} (hs : okS s) (ht : okS t) (h1 : s.length ≤ 40000) (h2 : t.length ≤ 40000) (hab : a ≠ b) (he : behR s t = (r, e)) (hne : e ≠ 0) (hq : Q L (.val (.tup [.nilp, .int .i64 e])))
 (h0 : ent L a = subE s := by rfl) (h0' : ent L b = subE t := by rfl) (ha : a < L.length := by simp) (hb : b < L.length := by simp) : VApp Tryz.prog L (.fn 43 [] []) [.ptr a 0, .ptr b 0] Q := by
 refine qtb a b hs ht h1 h2 hab ?_ h0 h0' ha hb
 rw [he, if_neg hne]
 exact hq
theorem qtc (hs : okS s) (hl : s.length ≤ 100000) {ty : Ty} (q1 : szY ty ≤ 20000) (q2 : dpY ty ≤ 300) : VM Tryz.prog 19 (subE s) (subE s) [.ptr 0 0, encY ty] (typA (appR s ty)) :=
 qp3 (b := true) (R := bunR (subH s)) (fun v => qh1 hs.1 hl v) hs q1 q2
end
def wT : Ty := ⟨[84], 0, []⟩
def wU : Ty := ⟨[85], 0, []⟩
def wV : Ty := ⟨[86], 0, []⟩
def wB : Ty := ⟨[], 1, []⟩
def wR : Ty := ⟨[45, 62], 0, [wT, wB]⟩
def S1 : List Pr := [⟨0, wT⟩]
def S2 : List Pr := [⟨0, wT⟩, ⟨1, Y0⟩]
def S3 : List Pr := [⟨0, wV⟩]
def S4 : List Pr := [⟨0, wT⟩, ⟨1, wV⟩]
theorem w1 : newR [⟨0, wT⟩, ⟨0, wU⟩] = S1 := by rfl
theorem w3 : newR [⟨0, wV⟩] = S3 := by rfl
theorem S1_ok : okS S1 := w1 ▸ qrl _
theorem qbxt : okS S3 := w3 ▸ qrl _
theorem w2 : setR S1 1 Y0 = (S2, 0) := by rfl
theorem qbgv : okS S2 := by have := qmv S1_ok 1 Y0; rwa [w2] at this
theorem w4 : behR S2 S3 = (S4, 0) := by rfl
theorem S4_ok : okS S4 := by have := qrm qbgv qbxt; rwa [w4] at this
theorem k1 : VM Tryz.prog 36 (subE S1) (subE S1) [.ptr 0 0, .int .i64 0, encY wT] (.int .i64 6) := qgc S1_ok.1 (by decide) 0 (t := wT) (by decide) (by decide)
theorem k2 : VM Tryz.prog 36 (subE S1) (subE S2) [.ptr 0 0, .int .i64 1, encY Y0] (.int .i64 0) := qgc S1_ok.1 (by decide) 1 (t := Y0) (by decide) (by decide)
theorem k4 : VM Tryz.prog 25 (subE S4) (subE S4) [.ptr 0 0, .int .i64 1] (.tup [encY wV, .bool true]) := qh1 S4_ok.1 (by decide) 1
theorem k5 : VM Tryz.prog 12 (subE S2) (subE S2) [.ptr 0 0] (.sl 4 (qt S2)) := qed (by decide) (qgi qbgv)
theorem w6 : qbuo [1] S2 = [⟨1, Y0⟩] := by rfl
theorem k6 : VM Tryz.prog 12 (subE [⟨1, Y0⟩]) (subE [⟨1, Y0⟩]) [.ptr 0 0] (.sl 4 (qt [⟨1, Y0⟩])) := qed (by decide) (qgi (by have := q04 qbgv [1]; rwa [w6] at this))
theorem k7 : ql Tryz.prog 64 [encY wR] (.str [84, 32, 45, 62, 32, 98]) := ql4 (t := wR) (by decide) (by decide) (by decide)
end Go.Proofs.YtlahgbhhejkgbaaGreat
