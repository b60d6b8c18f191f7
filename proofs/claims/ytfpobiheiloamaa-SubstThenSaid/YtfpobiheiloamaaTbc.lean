/- Texts of this proof, joined. -/
import Derived.Test.YtfpobiheiloamaaTbb
import Derived.Test.YtfpobiheiloamaaTaw

/- substitutions: new ones, types and their pairs -/
set_option maxRecDepth 4000
namespace Go.Proofs.Ytfpobiheiloamaa
open Go Go.RowKit Go.V
set_option linter.unusedVariables false
set_option linter.unusedSimpArgs false

theorem qfh {l : List Pr} {i : Nat} (h : i < l.length) : l.take (i + 1) = l.take i ++ [l.getD i R0] := by
 rw [List.take_add_one, List.getD_eq_getElem?_getD, List.getElem?_eq_getElem h]; rfl
def smlR (l : List Pr) : Prop := ∀ p ∈ l, szY p.ty ≤ 20000 ∧ dpY p.ty ≤ 300
theorem qll {l : List Pr} (hs : smlR l) (hl : l.length ≤ 100000) : VCalls Try.prog 33 [] [.sl 4 (qr l)] fun H' o => H' = [subE (newR l)] ∧ o = .val (.ptr 0 0) := by
 refine qk c0bb 1 (by simp) (by simp) ?_
 repeat' (first | refine vs_ ?_ | ((first | refine vr_ ?_ | (refine cs_ ?_ ?_ <;> intro hc) | refine cj_ ?_ | simp (disch := omega) only [encs_getN, qb]) <;> (try refine ev_ ?_)) | with_reducible exact ti_)
 refine qxy 0 rfl rfl ?_
 refine qp (S := Nat) (fun i => i ≤ l.length) (fun i => (⟨[(3, .ptr 0 0), (8, .sl 4 (qr l)), (9, .int .i64 l.length), (10, .int .i64 i)], []⟩, [subE (newR (l.take i))])) (fun i => l.length - i) ?_ fun i hi => ?_
 ·refine qn 0 [0] (Nat.zero_le _) rfl (by simp) ?_ ?_ ?_ <;> simp only [List.take_zero, newR, addR, qf3] <;> (try refine ev_ ?_) <;> (try with_reducible exact ti_) <;> (try simp (disch := omega) only [qb, and_true, true_and])
  all_goals rfl
 ·by_cases hlt : i < l.length
  ·have hok := qg7 (l.take i)
   have hln := qje (l.take i)
   rw [List.length_take] at hln
   have hm := hs _ (qb8 hlt)
   have hn : newR (l.take (i + 1)) = (setR (newR (l.take i)) (l.getD i R0).v (l.getD i R0).ty).1 := by rw [qfh hlt, newR, qhc]; rfl
   have hp := qx hlt
   repeat' (first | refine vs_ ?_ | ((first | refine vr_ ?_ | fail) <;> (try simp (disch := first | omega | (simp only [List.length_set, List.length_append, List.length_cons, List.length_nil]; done) | (simp only [List.length_set, List.length_append, List.length_cons, List.length_nil]; omega)) only [hp, qb, go_sem, ↓reduceIte])) | ((first | simp (disch := omega) only [hp] | (refine cs_ ?_ ?_ <;> intro hc) | refine cj_ ?_ | simp (disch := omega) only [encs_getN, qb] | refine qcd 0 (qd9 hok.1 (by omega) _ hm.1 hm.2) ?_) <;> (try refine ev_ ?_)) | with_reducible exact ti_)
   ·refine qn (i + 1) [0] ⟨by omega, by omega⟩ rfl (by simp) ?_ ?_ ?_ <;> simp only [hn] <;> (try refine ev_ ?_) <;> (try with_reducible exact ti_) <;> (try simp (disch := omega) only [qb, and_true, true_and])
    all_goals rw [q9 (by omega) (by omega), Int.natCast_add]; rfl
   ·exfalso; omega
  ·have hie : i = l.length := by omega
   subst hie
   rw [List.take_length]
   repeat' (first | refine vs_ ?_ | ((first | refine vr_ ?_ | (refine cs_ ?_ ?_ <;> intro hc) | refine cj_ ?_ | simp (disch := omega) only [encs_getN, qb]) <;> (try refine ev_ ?_)) | with_reducible exact ti_)
   all_goals (exfalso; omega)
set_option maxRecDepth 4000

theorem qj7 {R : World → (Nat → Nat → Prop) → Gh → Prop} {b : Bool} {s : List Pr} (hG : ∀ v, VM Try.prog 37 (.cus R) (.cus R) [svA b 0, .int .i64 v] (getV s v)) (hs : okS s) {t : Ty} (h1 : szY t ≤ 20000) (h2 : dpY t ≤ 300) :
 VM Try.prog 35 (.cus R) (.cus R) [svA b 0, encY t] (typA (appR s t)) := by
 refine qk c0ba 1 (by simp) (by simp) ?_
 have hLg := qck h1 h2
 rw [← q4k hs]
 by_cases hlg : qu t = true
 ·obtain ⟨q1, q2, q3⟩ := (qbb t).1 hlg
  have hput := q3j hG (q0w hs) t (qcc t q3) h1 4096 1 (by omega) (by omega) (by omega) (by omega)
  rw [hlg] at hLg
  by_cases hn : (bput s t 4096 1).1 < 0
  ·have hnd : decide ((bput s t 4096 1).1 < 0) = true := decide_eq_true hn
   rw [appP, if_pos hlg, if_pos hn]
   repeat' (first | refine vs_ ?_ | ((first | refine vr_ ?_ | fail) <;> (try simp only [hnd, go_sem, ↓reduceIte])) | ((first | (refine cs_ ?_ ?_ <;> intro hc) | refine cj_ ?_ | fail | refine qa hLg fun _ => ?_ | refine qm1 3 0 hput (by simp) ?_) <;> (try refine ev_ ?_)) | with_reducible exact ti_)
   all_goals rfl
  ·have hnd : decide ((bput s t 4096 1).1 < 0) = false := decide_eq_false hn
   rw [appP, if_pos hlg, if_neg hn]
   repeat' (first | refine vs_ ?_ | ((first | refine vr_ ?_ | fail) <;> (try simp only [hnd, go_sem, ↓reduceIte])) | ((first | (refine cs_ ?_ ?_ <;> intro hc) | refine cj_ ?_ | fail | refine qa hLg fun _ => ?_ | refine qm1 3 0 hput (by simp) ?_) <;> (try refine ev_ ?_)) | with_reducible exact ti_)
   all_goals rfl
 ·rw [appP, if_neg hlg]
  have hlg : qu t = false := by simpa using hlg
  rw [hlg] at hLg
  repeat' (first | refine vs_ ?_ | ((first | refine vr_ ?_ | refine qa hLg fun _ => ?_ | (refine cs_ ?_ ?_ <;> intro hc) | refine cj_ ?_ | fail) <;> (try refine ev_ ?_)) | with_reducible exact ti_)
  all_goals rfl
set_option maxRecDepth 4000

def zR : AV := .agg [.int .i64 0, .str [], .int .i64 0, .nils]
def cpR (l : List Pr) (i : Nat) : List AV := qr (l.take i) ++ List.replicate (l.length - i) zR
theorem q40 {l : List Pr} {i : Nat} (h : i ≤ l.length) : (cpR l i).length = l.length := by
 rw [cpR, List.length_append, qce, List.length_take, List.length_replicate]; omega
theorem qbcp (l : List Pr) : cpR l 0 = List.replicate l.length zR := by rw [cpR, List.take_zero, qqu, Nat.sub_zero]; rfl
theorem q3d (l : List Pr) : cpR l l.length = qr l := by rw [cpR, List.take_length, Nat.sub_self, List.replicate_zero, List.append_nil]
theorem qrj {l : List Pr} {i : Nat} (h : i < l.length) : (cpR l i).set i (encR (l.getD i R0)) = cpR l (i + 1) := by
 have h2 : (qr (l.take i)).length = i := by rw [qce, List.length_take]; omega
 obtain ⟨k, hk⟩ : ∃ k, l.length - i = k + 1 := ⟨l.length - i - 1, by omega⟩
 have hk2 : l.length - (i + 1) = k := by omega
 rw [cpR, cpR, hk, hk2, List.replicate_succ, qfh h, ← qpx, List.set_append_right _ _ (by omega), h2, Nat.sub_self, List.set_cons_zero, List.append_assoc]
 rfl
theorem qnd (k : Nat) (l : List Pr) (i : Nat) : AV.bds k (cpR l i) = true := by
 rw [cpR, qfd, qb0, qdd]
 simp [zR, AV.bd, AV.bds]
theorem qms (σ : Nat → Nat) (l : List Pr) (i : Nat) : AV.rens σ (cpR l i) = cpR l i := qj (m := 0) (fun i hi => by omega) _ (qnd 0 l i)
attribute [go_sem] qnd qms
theorem qt4 : VCalls Try.prog 41 [.blk [.nils]] [.ptr 0 0] (qdl fun H' o => H' = [subE []] ∧ o = .val (.sl 4 (qr []))) := by
 refine qk c0z 1 (by simp) (by simp) ?_
 repeat' (first | refine vs_ ?_ | ((first | refine vr_ ?_ | (refine cs_ ?_ ?_ <;> intro hc) | refine cj_ ?_ | simp (disch := omega) only [encs_getN, qb]) <;> (try refine ev_ ?_)) | with_reducible exact ti_)
 refine qp (S := Unit) (fun _ => True) (fun _ => (⟨[(3, .row 1 0), (18, .int .i64 (0 : Nat)), (19, .int .i64 (0 : Nat))], []⟩, [.blk [.nils], .mrow 4 []])) (fun _ => 0) ?_ fun x hx => ?_
 ·refine qn () [0, 1] trivial rfl (by simp) ?_ ?_ ?_ <;> (try refine ev_ ?_) <;> (try with_reducible exact ti_) <;> (try simp (disch := omega) only [qb, and_true, true_and])
  all_goals rfl
 ·refine qdm 1 rfl (fun v hv => by simp at hv) ?_
  repeat' (first | refine vs_ ?_ | ((first | refine vr_ ?_ | (refine cs_ ?_ ?_ <;> intro hc) | refine cj_ ?_ | simp (disch := omega) only [encs_getN, qb]) <;> (try refine ev_ ?_)) | with_reducible exact ti_)
  ·exact absurd hc (by omega)
  ·exact qef rfl (by simp) rfl ⟨rfl, rfl⟩
theorem que {s : List Pr} (hs : s ≠ []) (hl : s.length ≤ 100000) (ho : smlR s) : VCalls Try.prog 41 [.blk [.row 1 s.length], qbf s] [.ptr 0 0] (qdl fun H' o => H' = [subE s] ∧ o = .val (.sl 4 (qr s))) := by
 refine qk c0z 2 (by simp) (by simp) ?_
 repeat' (first | refine vs_ ?_ | ((first | refine vr_ ?_ | (refine cs_ ?_ ?_ <;> intro hc) | refine cj_ ?_ | simp (disch := omega) only [encs_getN, qb]) <;> (try refine ev_ ?_)) | with_reducible exact ti_)
 have hm : s.length ≤ maxLen := by unfold maxLen; omega
 refine ⟨hm, ⟨by omega, by omega⟩, ?_⟩
 repeat' (first | refine vs_ ?_ | ((first | refine vr_ ?_ | (refine cs_ ?_ ?_ <;> intro hc) | refine cj_ ?_ | simp (disch := omega) only [encs_getN, qb]) <;> (try refine ev_ ?_)) | with_reducible exact ti_)
 refine qp (S := Nat) (fun i => i ≤ s.length) (fun i => (⟨[(3, .row 2 s.length), (17, .row 1 s.length), (18, .int .i64 s.length), (19, .int .i64 i)], []⟩, [.blk [.row 1 s.length], qbf s, .mrow 4 (cpR s i)])) (fun i => s.length - i) ?_ fun i hi => ?_
 ·refine qn 0 [0, 1, 2] (Nat.zero_le _) rfl (by simp) ?_ ?_ ?_ <;> simp only [qbcp, zR] <;> (try refine ev_ ?_) <;> (try with_reducible exact ti_) <;> (try simp (disch := omega) only [qb, and_true, true_and])
  all_goals
   rw [show List.replicate s.length (AV.agg [AV.int .i64 0, AV.str [], AV.int .i64 0, AV.nils]) = cpR s 0 from (qbcp _).symm]
   exact ⟨qnd _ _ _, by rw [qms]⟩
 ·by_cases hlt : i < s.length
  ·have hp := qx hlt
   have hc := q40 hi
   have hcp := qcn (s.getD i R0).ty (by have := (ho _ (qb8 hlt)).1; omega)
   repeat' (first | refine vs_ ?_ | ((first | refine vr_ ?_ | fail) <;> (try simp (disch := first | omega | (simp only [List.length_set, List.length_append, List.length_cons, List.length_nil]; done) | (simp only [List.length_set, List.length_append, List.length_cons, List.length_nil]; omega)) only [hp, qb, go_sem, ↓reduceIte])) | ((first | simp (disch := omega) only [hp] | (refine cs_ ?_ ?_ <;> intro hc) | refine cj_ ?_ | simp (disch := omega) only [encs_getN, qb] | refine qa hcp fun _ => ?_ | refine qh hcp ?_) <;> (try refine ev_ ?_)) | with_reducible exact ti_)
   ·refine qn (i + 1) [0, 1, 2] ⟨by omega, by omega⟩ rfl (by simp) ?_ ?_ ?_ <;> simp only [← qrj hlt] <;> (try refine ev_ ?_) <;> (try with_reducible exact ti_) <;> (try simp (disch := omega) only [qb, and_true, true_and])
    all_goals (rw [qrj hlt]; exact ⟨qnd _ _ _, by rw [qms]⟩)
   ·exfalso; omega
  ·have hie : i = s.length := by omega
   subst hie
   rw [q3d]
   refine qdm 2 rfl (qio _) ?_
   repeat' (first | refine vs_ ?_ | ((first | refine vr_ ?_ | (refine cs_ ?_ ?_ <;> intro hc) | refine cj_ ?_ | simp (disch := omega) only [encs_getN, qb]) <;> (try refine ev_ ?_)) | with_reducible exact ti_)
   all_goals try (exfalso; omega)
   all_goals exact qcf 1 hs rfl rfl (by simp) (by simp) (by simp [AV.bd, qb0]) ⟨rfl, rfl⟩
theorem qc0 {s : List Pr} (hl : s.length ≤ 100000) (ho : smlR s) : VM Try.prog 41 (subE s) (subE s) [.ptr 0 0] (.sl 4 (qr s)) := by
 by_cases hs : s = []
 ·subst hs
  exact qit (by rw [qf3]; exact qt4) rfl
 ·exact qit (by have := que hs hl ho; rwa [← qjv hs] at this) rfl
set_option maxRecDepth 4000

section
variable {P : Program} {f : FuncId} {e : Ent} {L : List Ent} {args : List AV} {Q : List Ent → VO → Prop}
theorem qf9 (h : VCalls P f [] args fun H' o => H' = [e] ∧ o = .val (.ptr 0 0)) (hb : e.bd 0 = true) (ha : AV.bds 0 args = true) (hq : Q (L ++ [e]) (.val (.ptr L.length 0))) : VApp P L (.fn f [] []) args Q := by
 refine qw2 h ha fun H1 o ho => ?_
 obtain ⟨rfl, rfl⟩ := ho
 have e1 : qf0 L [] [e] = L ++ [e] := by
  show L ++ [e.ren _] = _
  rw [Ent.ren_bd0 hb]
 rw [e1]
 exact hq
end
theorem qee {s : List Pr} (h : okS s) : smlR s := fun p hp => by
 have := (qbb _).1 (h.2 p hp)
 omega
theorem qjm : VCalls Try.prog 33 [] [.sl 4 []] fun H' o => H' = [subE []] ∧ o = .val (.ptr 0 0) := qll (l := []) (fun p hp => by simp at hp) (by simp)
theorem q18 {s : List Pr} (ho : risR s) {i : Nat} (h : i < s.length) : ∀ p ∈ s.take i, p.v < (s.getD i R0).v := fun p hp => by
 obtain ⟨j, hj⟩ := List.mem_iff_getElem?.1 hp
 have hjl := (List.getElem?_eq_some_iff.1 hj).1
 rw [List.length_take] at hjl
 rw [List.getElem?_take] at hj
 split at hj
 ·have := qos ho j i (by omega) h
  rw [List.getD_eq_getElem?_getD, hj] at this
  exact this
 ·cases hj
theorem qrv {vars : List Int} {s : List Pr} (ho : okS s) {i : Nat} (h : i < s.length) (hv : (s.getD i R0).v ∈ vars) : (setR (qdf vars (s.take i)) (s.getD i R0).v (s.getD i R0).ty).1 = qdf vars (s.take (i + 1)) := by
 rw [qiq vars h, if_pos hv, qod (ho.2 _ (qb8 h))]
 exact fun p hp => q18 ho.1 h p (List.mem_filter.1 hp).1
theorem qul {s : List Pr} (ho : risR s) (i : Nat) : risR (s.take i) := by
 induction s generalizing i with
 | nil => simp; exact trivial
 | cons p r ih =>
   cases i with
   | zero => exact trivial
   | succ i => exact ⟨fun q hq => ho.1 q (List.mem_of_mem_take hq), ih ho.2 i⟩
theorem qpq {s : List Pr} (hs : okS s) (hl : s.length ≤ 40000) (vars : List Int) : VCalls Try.prog 42 [subE s] [.ptr 0 0, .sl 1 (ints vars)] fun H' o => H' = [subE s, subE (qdf vars s)] ∧ o = .val (.ptr 1 0) := by
 refine qk c0y 2 (by simp) (by simp) ?_
 repeat' (first | refine vs_ ?_ | ((first | refine vr_ ?_ | refine qf9 qjm rfl rfl ?_ | refine qcd 0 (qc0 (by omega) (qee hs)) ?_ | (refine cs_ ?_ ?_ <;> intro hc) | refine cj_ ?_ | simp (disch := omega) only [encs_getN, qb]) <;> (try refine ev_ ?_)) | with_reducible exact ti_)
 refine qp (S := Nat) (fun i => i ≤ s.length) (fun i => (⟨[(1, .sl 1 (ints vars)), (5, .ptr 1 0), (10, .sl 4 (qr s)), (11, .int .i64 s.length), (12, .int .i64 i)], []⟩, [subE s, subE (qdf vars (s.take i))])) (fun i => s.length - i) ?_ fun i hi => ?_
 ·refine qn 0 [0, 1] (Nat.zero_le _) rfl (by simp) ?_ ?_ ?_ <;> simp only [List.take_zero, qdf, List.filter_nil] <;> (try refine ev_ ?_) <;> (try with_reducible exact ti_) <;> (try simp (disch := omega) only [qb, and_true, true_and])
 ·by_cases hlt : i < s.length
  ·have hp := qx hlt
   have hm := qee hs _ (qb8 hlt)
   have hwl := qss vars (s.take i)
   rw [List.length_take] at hwl
   have hris : risR (qdf vars (s.take i)) := qdy _ (qul hs.1 i)
   by_cases hv : (s.getD i R0).v ∈ vars
   ·have hn := qrv hs hlt hv
    have hvd : decide ((s.getD i R0).v ∈ vars) = true := decide_eq_true hv
    repeat' (first | refine vs_ ?_ | ((first | refine vr_ ?_ | fail) <;> (try simp (disch := first | omega | (simp only [List.length_set, List.length_append, List.length_cons, List.length_nil]; done) | (simp only [List.length_set, List.length_append, List.length_cons, List.length_nil]; omega)) only [hp, qb, hvd, go_sem, ↓reduceIte])) | ((first | simp (disch := omega) only [hp] | simp (disch := omega) only [hvd] | (refine cs_ ?_ ?_ <;> intro hc) | refine cj_ ?_ | simp (disch := omega) only [encs_getN, qb] | refine qa (qds vars _) fun _ => ?_ | refine qcd 1 (qd9 hris (by omega) _ hm.1 hm.2) ?_) <;> (try refine ev_ ?_)) | with_reducible exact ti_)
    ·refine qn (i + 1) [0, 1] ⟨by omega, by omega⟩ rfl (by simp) ?_ ?_ ?_ <;> simp only [hn] <;> (try refine ev_ ?_) <;> (try with_reducible exact ti_) <;> (try simp (disch := omega) only [qb, and_true, true_and])
     all_goals rw [q9 (by omega) (by omega), Int.natCast_add]; rfl
    ·exfalso; omega
   ·have hn := qiq vars hlt
    rw [if_neg hv, List.append_nil] at hn
    have hvd : decide ((s.getD i R0).v ∈ vars) = false := decide_eq_false hv
    repeat' (first | refine vs_ ?_ | ((first | refine vr_ ?_ | fail) <;> (try simp (disch := first | omega | (simp only [List.length_set, List.length_append, List.length_cons, List.length_nil]; done) | (simp only [List.length_set, List.length_append, List.length_cons, List.length_nil]; omega)) only [hp, qb, hvd, go_sem, ↓reduceIte])) | ((first | simp (disch := omega) only [hp] | simp (disch := omega) only [hvd] | (refine cs_ ?_ ?_ <;> intro hc) | refine cj_ ?_ | simp (disch := omega) only [encs_getN, qb] | refine qa (qds vars _) fun _ => ?_) <;> (try refine ev_ ?_)) | with_reducible exact ti_)
    ·refine qn (i + 1) [0, 1] ⟨by omega, by omega⟩ rfl (by simp) ?_ ?_ ?_ <;> simp only [hn] <;> (try refine ev_ ?_) <;> (try with_reducible exact ti_) <;> (try simp (disch := omega) only [qb, and_true, true_and])
     all_goals rw [q9 (by omega) (by omega), Int.natCast_add]; rfl
    ·exfalso; omega
  ·have hie : i = s.length := by omega
   subst hie
   rw [List.take_length]
   repeat' (first | refine vs_ ?_ | ((first | refine vr_ ?_ | (refine cs_ ?_ ?_ <;> intro hc) | refine cj_ ?_ | simp (disch := omega) only [encs_getN, qb]) <;> (try refine ev_ ?_)) | with_reducible exact ti_)
   all_goals (exfalso; omega)
set_option maxRecDepth 4000

theorem qho (t : List Pr) (b : List Pr) : ∀ (a acc : List Pr), (q6 t acc a).2 = 0 → q6 t acc (a ++ b) = q6 t (q6 t acc a).1 b
 | [], acc, _ => rfl
 | p :: r, acc, h => by
   rw [q6] at h
   rw [List.cons_append, q6, q6]
   split at h
   ·rename_i h0
    rw [if_pos h0, if_pos h0, qho t b r _ h]
   ·rename_i h0
    exact absurd h h0
theorem qja {t : List Pr} : ∀ (a : List Pr) {acc : List Pr}, okS acc → okS (q6 t acc a).1
 | [], _, h => h
 | p :: r, acc, h => by
   rw [q6]
   split
   ·exact qja r (qmb h _ _)
   ·exact qgp
theorem qeo (t : List Pr) : ∀ (a acc : List Pr), (q6 t acc a).1.length ≤ acc.length + a.length
 | [], acc => by simp [q6]
 | p :: r, acc => by
   rw [q6, List.length_cons]
   split
   ·have h1 := qeo t r (setR acc p.v (appR t p.ty).1).1
    have h2 := qn6 acc p.v (appR t p.ty).1
    omega
   ·simp
theorem qsh {s t : List Pr} (hs : okS s) (ht : okS t) : behR s t = if (q6 t [] s).2 = 0 then (addR (q6 t [] s).1 t, 0) else ([], (q6 t [] s).2) := by
 rw [behR, ← qoh ht s [] hs.1 (fun p hp => by simp at hp)]
theorem qv8 {s t : List Pr} {i : Nat} (h : i < s.length) (h0 : (q6 t [] (s.take i)).2 = 0) : q6 t [] s = q6 t (q6 t [] (s.take i)).1 (s.getD i R0 :: s.drop (i + 1)) := by
 have := qho t (s.drop i) (s.take i) [] h0
 rwa [List.take_append_drop, qbdm h] at this
theorem qou {s t : List Pr} {i : Nat} (h : i < s.length) (h0 : (q6 t [] (s.take i)).2 = 0) (ha : (appR t (s.getD i R0).ty).2 = 0) : q6 t [] (s.take (i + 1)) = ((setR (q6 t [] (s.take i)).1 (s.getD i R0).v (appR t (s.getD i R0).ty).1).1, 0) := by
 rw [qfh h, qho t _ _ _ h0, q6, if_pos ha, q6]
theorem qin {s t : List Pr} {i : Nat} (h : i < s.length) (h0 : (q6 t [] (s.take i)).2 = 0) (ha : (appR t (s.getD i R0).ty).2 ≠ 0) : q6 t [] s = ([], (appR t (s.getD i R0).ty).2) := by
 rw [qv8 h h0, q6, if_neg ha]
def newQ (L : List Ent) (p : List Pr × Int) (H' : List Ent) (o : VO) : Prop :=
 if p.2 = 0 then H' = L ++ [subE p.1] ∧ o = .val (.tup [.ptr L.length 0, .int .i64 0]) else H' = L ∧ o = .val (.tup [.nilp, .int .i64 p.2])
theorem quf {s t : List Pr} (hs : okS s) (ht : okS t) (h1 : s.length ≤ 40000) (h2 : t.length ≤ 40000) : VCalls Try.prog 46 [subE s, subE t] [.ptr 0 0, .ptr 1 0] (newQ [subE s, subE t] (behR s t)) := by
 have hms := qee hs
 have hmt := qee ht
 have hA : ∀ ty, szY ty ≤ 20000 → dpY ty ≤ 300 → VM Try.prog 35 (subE t) (subE t) [.ptr 0 0, encY ty] (typA (appR t ty)) := fun ty q1 q2 => qj7 (b := true) (R := bunR (subH t)) (fun v => qm4 ht.1 (by omega) v) ht q1 q2
 have hstep : ∀ i, i < s.length → (q6 t [] (s.take i)).2 = 0 → risR (q6 t [] (s.take i)).1 ∧ (q6 t [] (s.take i)).1.length ≤ 40000 := fun i hi h0 => by
  have := qeo t (s.take i) []
  rw [List.length_take] at this
  exact ⟨(qja (s.take i) qgp).1, by simp at this; omega⟩
 have hap : ∀ i, i < s.length → (appR t (s.getD i R0).ty).2 = 0 → szY (appR t (s.getD i R0).ty).1 ≤ 20000 ∧ dpY (appR t (s.getD i R0).ty).1 ≤ 300 := fun i hi h0 => by
  obtain ⟨_, q2, q3⟩ := qcz ht h0
  rw [q3]
  have := (qbb _).1 q2
  omega
 rw [qsh hs ht]
 by_cases he : (q6 t [] s).2 = 0
 ·rw [if_pos he]
  refine qk c0x 3 (by simp) (by simp) ?_
  repeat' (first | refine vs_ ?_ | ((first | refine vr_ ?_ | refine qf9 qjm rfl rfl ?_ | refine qcd 0 (qc0 (by omega) hms) ?_ | (refine cs_ ?_ ?_ <;> intro hc) | refine cj_ ?_ | simp (disch := omega) only [encs_getN, qb]) <;> (try refine ev_ ?_)) | with_reducible exact ti_)
  refine qp (S := Nat) (fun i => i ≤ s.length ∧ (q6 t [] (s.take i)).2 = 0) (fun i => (⟨[(1, .ptr 1 0), (6, .ptr 2 0), (15, .sl 4 (qr s)), (16, .int .i64 s.length), (17, .int .i64 i)], []⟩, [subE s, subE t, subE (q6 t [] (s.take i)).1])) (fun i => s.length - i) ?_ fun i hi => ?_
  ·refine qn 0 [0, 1, 2] ⟨Nat.zero_le _, rfl⟩ rfl (by simp) ?_ ?_ ?_ <;> simp only [List.take_zero, q6] <;> (try refine ev_ ?_) <;> (try with_reducible exact ti_) <;> (try simp (disch := omega) only [qb, and_true, true_and])
  ·obtain ⟨hi, h0⟩ := hi
   by_cases hlt : i < s.length
   ·have hp := qx hlt
    have hm := hms _ (qb8 hlt)
    obtain ⟨a1, a2⟩ := hstep i hlt h0
    by_cases ha : (appR t (s.getD i R0).ty).2 = 0
    ·obtain ⟨b1, b2⟩ := hap i hlt ha
     have hn := qou hlt h0 ha
     have hT : typA (appR t (s.getD i R0).ty) = .tup [encY (appR t (s.getD i R0).ty).1, .int .i64 0] := by rw [typA, ha]
     repeat' (first | refine vs_ ?_ | ((first | refine vr_ ?_ | fail) <;> (try simp (disch := first | omega | (simp only [List.length_set, List.length_append, List.length_cons, List.length_nil]; done) | (simp only [List.length_set, List.length_append, List.length_cons, List.length_nil]; omega)) only [hp, qb, go_sem, ↓reduceIte])) | ((first | simp (disch := omega) only [hp] | simp (disch := omega) only [hT] | (refine cs_ ?_ ?_ <;> intro hc) | refine cj_ ?_ | simp (disch := omega) only [encs_getN, qb] | refine qcd 1 (hA _ hm.1 hm.2) ?_ rfl rfl (by simp) rfl (qi9 0 _) | refine qcd 2 (qd9 a1 (by omega) _ b1 b2) ?_) <;> (try refine ev_ ?_)) | with_reducible exact ti_)
     ·refine qn (i + 1) [0, 1, 2] ⟨⟨by omega, by rw [hn]⟩, by omega⟩ rfl (by simp) ?_ ?_ ?_ <;> simp only [hn] <;> (try refine ev_ ?_) <;> (try with_reducible exact ti_) <;> (try simp (disch := omega) only [qb, and_true, true_and])
      all_goals rw [q9 (by omega) (by omega), Int.natCast_add]; rfl
     ·exfalso; omega
    ·exact absurd (by rw [qin hlt h0 ha] at he; exact he) ha
   ·have hie : i = s.length := by omega
    subst hie
    rw [List.take_length]
    have hok : okS (q6 t [] s).1 := qja s qgp
    have hln := qeo t s []
    simp only [List.length_nil, Nat.zero_add] at hln
    repeat' (first | refine vs_ ?_ | ((first | refine vr_ ?_ | refine qcd 1 (qc0 (by omega) hmt) ?_ | (refine cs_ ?_ ?_ <;> intro hc) | refine cj_ ?_ | simp (disch := omega) only [encs_getN, qb]) <;> (try refine ev_ ?_)) | with_reducible exact ti_)
    ·exfalso; omega
    ·generalize (q6 t [] s).1 = a at hok hln ⊢
     refine qp (S := Nat) (fun i => i ≤ t.length) (fun i => (⟨[(6, .ptr 2 0), (38, .sl 4 (qr t)), (39, .int .i64 t.length), (40, .int .i64 i)], []⟩, [subE s, subE t, subE (addR a (t.take i))])) (fun i => t.length - i) ?_ fun i hi => ?_
     ·refine qn 0 [0, 1, 2] (Nat.zero_le _) rfl (by simp) ?_ ?_ ?_ <;> simp only [List.take_zero, addR] <;> (try refine ev_ ?_) <;> (try with_reducible exact ti_) <;> (try simp (disch := omega) only [qb, and_true, true_and])
     ·by_cases hlt : i < t.length
      ·have hp := qx hlt
       have hm := hmt _ (qb8 hlt)
       have hq := qix (t.take i) hok
       have hql := qf5 (t.take i) a
       rw [List.length_take] at hql
       have hn := qr9 hlt a
       repeat' (first | refine vs_ ?_ | ((first | refine vr_ ?_ | fail) <;> (try simp (disch := first | omega | (simp only [List.length_set, List.length_append, List.length_cons, List.length_nil]; done) | (simp only [List.length_set, List.length_append, List.length_cons, List.length_nil]; omega)) only [hp, qb, go_sem, ↓reduceIte])) | ((first | simp (disch := omega) only [hp] | (refine cs_ ?_ ?_ <;> intro hc) | refine cj_ ?_ | simp (disch := omega) only [encs_getN, qb] | refine qcd 2 (qd9 hq.1 (by omega) _ hm.1 hm.2) ?_) <;> (try refine ev_ ?_)) | with_reducible exact ti_)
       ·refine qn (i + 1) [0, 1, 2] ⟨by omega, by omega⟩ rfl (by simp) ?_ ?_ ?_ <;> simp only [hn] <;> (try refine ev_ ?_) <;> (try with_reducible exact ti_) <;> (try simp (disch := omega) only [qb, and_true, true_and])
        all_goals rw [q9 (by omega) (by omega), Int.natCast_add]; rfl
      ·have hie : i = t.length := by omega
       subst hie
       rw [List.take_length]
       repeat' (first | refine vs_ ?_ | ((first | refine vr_ ?_ | (refine cs_ ?_ ?_ <;> intro hc) | refine cj_ ?_ | simp (disch := omega) only [encs_getN, qb]) <;> (try refine ev_ ?_)) | with_reducible exact ti_)
       all_goals try (exfalso; omega)
       all_goals
        rw [newQ, if_pos rfl]
        exact ⟨rfl, rfl⟩
 ·rw [if_neg he]
  refine qk c0x 2 (by simp) (by simp) ?_
  repeat' (first | refine vs_ ?_ | ((first | refine vr_ ?_ | refine qf9 qjm rfl rfl ?_ | refine qcd 0 (qc0 (by omega) hms) ?_ | (refine cs_ ?_ ?_ <;> intro hc) | refine cj_ ?_ | simp (disch := omega) only [encs_getN, qb]) <;> (try refine ev_ ?_)) | with_reducible exact ti_)
  refine qp (S := Nat) (fun i => i ≤ s.length ∧ (q6 t [] (s.take i)).2 = 0) (fun i => (⟨[(1, .ptr 1 0), (6, .ptr 2 0), (15, .sl 4 (qr s)), (16, .int .i64 s.length), (17, .int .i64 i)], []⟩, [subE s, subE t, subE (q6 t [] (s.take i)).1])) (fun i => s.length - i) ?_ fun i hi => ?_
  ·refine qn 0 [0, 1, 2] ⟨Nat.zero_le _, rfl⟩ rfl (by simp) ?_ ?_ ?_ <;> simp only [List.take_zero, q6] <;> (try refine ev_ ?_) <;> (try with_reducible exact ti_) <;> (try simp (disch := omega) only [qb, and_true, true_and])
  ·obtain ⟨hi, h0⟩ := hi
   have hlt : i < s.length := by
    by_cases hlt : i < s.length
    ·exact hlt
    ·rw [List.take_of_length_le (by omega)] at h0
     exact absurd h0 he
   have hp := qx hlt
   have hm := hms _ (qb8 hlt)
   obtain ⟨a1, a2⟩ := hstep i hlt h0
   by_cases ha : (appR t (s.getD i R0).ty).2 = 0
   ·obtain ⟨b1, b2⟩ := hap i hlt ha
    have hn := qou hlt h0 ha
    have hT : typA (appR t (s.getD i R0).ty) = .tup [encY (appR t (s.getD i R0).ty).1, .int .i64 0] := by rw [typA, ha]
    repeat' (first | refine vs_ ?_ | ((first | refine vr_ ?_ | fail) <;> (try simp (disch := first | omega | (simp only [List.length_set, List.length_append, List.length_cons, List.length_nil]; done) | (simp only [List.length_set, List.length_append, List.length_cons, List.length_nil]; omega)) only [hp, qb, go_sem, ↓reduceIte])) | ((first | simp (disch := omega) only [hp] | simp (disch := omega) only [hT] | (refine cs_ ?_ ?_ <;> intro hc) | refine cj_ ?_ | simp (disch := omega) only [encs_getN, qb] | refine qcd 1 (hA _ hm.1 hm.2) ?_ rfl rfl (by simp) rfl (qi9 0 _) | refine qcd 2 (qd9 a1 (by omega) _ b1 b2) ?_) <;> (try refine ev_ ?_)) | with_reducible exact ti_)
    ·refine qn (i + 1) [0, 1, 2] ⟨⟨by omega, by rw [hn]⟩, by omega⟩ rfl (by simp) ?_ ?_ ?_ <;> simp only [hn] <;> (try refine ev_ ?_) <;> (try with_reducible exact ti_) <;> (try simp (disch := omega) only [qb, and_true, true_and])
     all_goals rw [q9 (by omega) (by omega), Int.natCast_add]; rfl
    ·exfalso; omega
   ·have hT : typA (appR t (s.getD i R0).ty) = .tup [encY (appR t (s.getD i R0).ty).1, .int .i64 (appR t (s.getD i R0).ty).2] := rfl
    have had : decide ((appR t (s.getD i R0).ty).2 = 0) = false := decide_eq_false ha
    rw [qin hlt h0 ha]
    repeat' (first | refine vs_ ?_ | ((first | refine vr_ ?_ | fail) <;> (try simp (disch := first | omega | (simp only [List.length_set, List.length_append, List.length_cons, List.length_nil]; done) | (simp only [List.length_set, List.length_append, List.length_cons, List.length_nil]; omega)) only [hp, qb, had, go_sem, ↓reduceIte])) | ((first | simp (disch := omega) only [hp] | simp (disch := omega) only [hT] | (refine cs_ ?_ ?_ <;> intro hc) | refine cj_ ?_ | simp (disch := omega) only [encs_getN, qb] | refine qcd 1 (hA _ hm.1 hm.2) ?_ rfl rfl (by simp) rfl (qi9 0 _)) <;> (try refine ev_ ?_)) | with_reducible exact ti_)
    all_goals try (exfalso; omega)
    all_goals
     rw [newQ, if_neg ha]
     exact ⟨rfl, rfl⟩
set_option maxRecDepth 4000

def fewR (l : List Pr) : Bool := decide (l.length ≤ 30) && qdi (l.map Pr.ty)
theorem qhu (l : List Pr) (i : Nat) (h : i < l.length) : (l.map Pr.ty).take (i + 1) = (l.map Pr.ty).take i ++ [(l.getD i R0).ty] := by
 rw [List.take_add_one, List.getElem?_map, List.getElem?_eq_getElem h, List.getD_eq_getElem?_getD, List.getElem?_eq_getElem h]; rfl
def qlt (l : List Pr) (i : Nat) : AF × List Ent := (⟨[(0, .sl 4 (qr l)), (3, accV 0 (qs ((l.map Pr.ty).take i))), (4, .int .i64 i)], []⟩, accE 3 (qs ((l.map Pr.ty).take i)))
theorem q8b (l : List Pr) : qm Try.prog 30 [.sl 4 (qr l)] (.int .i64 (if fewR l = true then 1 else 0)) := by
 refine qf c0w (by simp) (by simp only [go_sem]) rfl fun hw => ?_
 have hl := (qjt hw.1).1
 repeat' (first | refine vs_ ?_ | ((first | refine vr_ ?_ | (refine cs_ ?_ ?_ <;> intro hc) | refine cj_ ?_ | simp (disch := omega) only [encs_getN, qb]) <;> (try refine ev_ ?_)) | with_reducible exact ti_)
 ·rw [if_neg (by simp [fewR]; omega)]
 have h30 : l.length ≤ 30 := by omega
 refine qp (S := Nat) (fun i => i ≤ l.length) (qlt l) (fun i => l.length - i) ?_ fun i hi => ?_
 ·refine qn 0 [] (Nat.zero_le _) rfl (by simp) ?_ ?_ ?_ <;> simp only [qlt, List.take_zero, qhl, qf4, qf7] <;> (try refine ev_ ?_) <;> (try with_reducible exact ti_) <;> (try simp (disch := omega) only [qb, and_true, true_and])
 ·have hfin : fewR l = qdi (l.map Pr.ty) := by rw [fewR, decide_eq_true h30, Bool.true_and]
  have hlm : ((l.map Pr.ty).take i).length = i := by rw [List.length_take, List.length_map]; omega
  have hcap : qjl (i + 1) 48 = True := eq_true (capY (by omega))
  unfold qlt
  by_cases hlt : i < l.length
  ·have hs := qhu l i hlt
   by_cases h0 : i = 0
   ·subst h0
    simp only [List.take_zero, qhl, qf4, qf7]
    repeat' (first | refine vs_ ?_ | ((first | refine vr_ ?_ | fail) <;> (try simp (disch := first | omega | (simp only [List.length_set, List.length_append, List.length_cons, List.length_nil]; done) | (simp only [List.length_set, List.length_append, List.length_cons, List.length_nil]; omega)) only [qx, qb, qf2, go_sem, ↓reduceIte])) | ((first | simp (disch := omega) only [qx] | simp (disch := omega) only [qf2] | simp (disch := omega) only [(show qjl 1 48 = True from eq_true (capY (by omega)))] | (refine cs_ ?_ ?_ <;> intro hc) | refine cj_ ?_ | simp (disch := omega) only [encs_getN, qb]) <;> (try refine ev_ ?_)) | with_reducible exact ti_)
    ·refine qn 1 [0] ⟨by omega, by omega⟩ rfl (by simp) ?_ ?_ ?_ <;> simp only [qlt, hs, List.take_zero, List.nil_append, ← qoy, qnq, qoa] <;> (try refine ev_ ?_) <;> (try with_reducible exact ti_) <;> (try simp (disch := omega) only [qb, and_true, true_and])
     all_goals (rw [qme])
    ·omega
   ·have hne : (l.map Pr.ty).take i ≠ [] := fun h => h0 (by rw [← hlm, h]; rfl)
    simp only [qmx (qgd hne), qmh (qgd hne), qba, hlm]
    repeat' (first | refine vs_ ?_ | ((first | refine vr_ ?_ | fail) <;> (try simp (disch := first | omega | (simp only [List.length_set, List.length_append, List.length_cons, List.length_nil]; done) | (simp only [List.length_set, List.length_append, List.length_cons, List.length_nil]; omega)) only [qx, qb, qf2, qba, hlm, go_sem, ↓reduceIte])) | ((first | simp (disch := omega) only [qx] | simp (disch := omega) only [qf2] | simp (disch := omega) only [hcap] | (refine cs_ ?_ ?_ <;> intro hc) | refine cj_ ?_ | simp (disch := omega) only [encs_getN, qb]) <;> (try refine ev_ ?_)) | with_reducible exact ti_)
    ·have hl2 : qs ((l.map Pr.ty).take (i + 1)) = qs ((l.map Pr.ty).take i) ++ [encY (l.getD i R0).ty] := by rw [hs, qes]
     refine qn (i + 1) [1] ⟨by omega, by omega⟩ rfl (by simp) ?_ ?_ ?_ <;> simp only [qlt, hl2, qlh, qka, qba, hlm] <;> (try refine ev_ ?_) <;> (try with_reducible exact ti_) <;> (try simp (disch := omega) only [qb, and_true, true_and])
     all_goals (simp only [qes]; exact ⟨qcm _ _, by rw [qkc]⟩)
    ·omega
  ·have hend : (l.map Pr.ty).take i = l.map Pr.ty := List.take_of_length_le (by rw [List.length_map]; omega)
   have hf := q1x (l.map Pr.ty)
   rw [hend, hfin]
   by_cases h0 : l.map Pr.ty = []
   ·rw [h0] at hf ⊢
    simp only [qhl, qf4, qf7]
    repeat' (first | refine vs_ ?_ | ((first | refine vr_ ?_ | fail) <;> (try simp only [qfc, go_sem, ↓reduceIte])) | ((first | (refine cs_ ?_ ?_ <;> intro hc) | refine cj_ ?_ | simp (disch := omega) only [encs_getN, qb] | refine qa hf fun _ => ?_) <;> (try refine ev_ ?_)) | with_reducible exact ti_)
    all_goals omega
   ·simp only [qmx (qgd h0), qmh (qgd h0), qba]
    repeat' (first | refine vs_ ?_ | ((first | refine vr_ ?_ | fail) <;> (try simp only [qba, go_sem, ↓reduceIte])) | ((first | (refine cs_ ?_ ?_ <;> intro hc) | refine cj_ ?_ | simp (disch := omega) only [encs_getN, qb] | refine qa hf fun _ => ?_) <;> (try refine ev_ ?_)) | with_reducible exact ti_)
    all_goals omega
set_option maxRecDepth 4000

theorem qom {l : List Pr} (hl : l.length ≤ maxLen) (h : fewR l = true) : l.length ≤ 30 ∧ smlR l := by
 rw [fewR, Bool.and_eq_true, decide_eq_true_eq] at h
 refine ⟨h.1, fun p hp => ?_⟩
 have := qr1 (l := l.map Pr.ty) (by rw [List.length_map]; exact hl) h.2
 have hm : p.ty ∈ l.map Pr.ty := List.mem_map_of_mem hp
 have h1 := qi3 hm
 have h2 := qmn hm
 omega
section
variable {L : List Ent} {Q : List Ent → VO → Prop} {s t : List Pr}
theorem qc4 {l : List Pr} (hs : smlR l) (hl : l.length ≤ 100000) (hq : Q (L ++ [subE (newR l)]) (.val (.ptr L.length 0))) : VApp Try.prog L (.fn 33 [] []) [.sl 4 (qr l)] Q :=
 qf9 (qll hs hl) rfl (by simp only [AV.bds, AV.bd, qb0, Bool.and_true]) hq
theorem qpf (a : Nat) (hs : okS s) (hl : s.length ≤ 40000) (vars : List Int) (hq : Q (L ++ [subE (qdf vars s)]) (.val (.ptr L.length 0))) (h0 : ent L a = subE s := by rfl) (ha : a < L.length := by simp) : VApp Try.prog L (.fn 42 [] []) [.ptr a 0, .sl 1 (ints vars)] Q := by
 refine qct ?_
 rw [List.nil_append, List.append_nil]
 refine qbs [a] (qpq hs hl vars) (by simp) ⟨⟨ha, rfl, by rw [h0]; rfl⟩, trivial⟩ (by simp only [AV.bds, AV.bd, qm0, Bool.and_true]; rfl) (by simp only [AV.rens, AV.ren, qn7]; rfl) fun H1 o ho => ?_
 obtain ⟨rfl, rfl⟩ := ho
 have e1 : qf0 L [a] [subE s, subE (qdf vars s)] = L ++ [subE (qdf vars s)] := by
  show (L.set a (subE s)) ++ [subE (qdf vars s)] = _
  rw [qc5 h0 ha]
 rw [e1]
 simp only [VO.ren, AV.ren]
 show Q _ (.val (.ptr (L.length + (1 - 1)) 0))
 exact hq
theorem qnc (a b : Nat) (hs : okS s) (ht : okS t) (h1 : s.length ≤ 40000) (h2 : t.length ≤ 40000) (hab : a ≠ b) (hq : if (behR s t).2 = 0 then Q (L ++ [subE (behR s t).1]) (.val (.tup [.ptr L.length 0, .int .i64 0])) else Q L (.val (.tup [.nilp, .int .i64 (behR s t).2])))
 (h0 : ent L a = subE s := by rfl) (h0' : ent L b = subE t := by rfl) (ha : a < L.length := by simp) (hb : b < L.length := by simp) : VApp Try.prog L (.fn 46 [] []) [.ptr a 0, .ptr b 0] Q := by
 refine qct ?_
 rw [List.nil_append, List.append_nil]
 refine qbs [a, b] (quf hs ht h1 h2) (by simp [hab]) ⟨⟨ha, rfl, by rw [h0]; rfl⟩, ⟨hb, rfl, by rw [h0']; rfl⟩, trivial⟩ rfl (by rfl) fun H1 o ho => ?_
 have e0 : (L.set a (subE s)).set b (subE t) = L := by
  rw [qc5 h0 ha, qc5 h0' hb]
 rw [newQ] at ho
 split at ho
 ·rename_i he
  rw [if_pos he] at hq
  obtain ⟨rfl, rfl⟩ := ho
  have e1 : qf0 L [a, b] ([subE s, subE t] ++ [subE (behR s t).1]) = L ++ [subE (behR s t).1] := by
   show ((L.set a (subE s)).set b (subE t)) ++ [subE (behR s t).1] = _
   rw [e0]
  rw [e1]
  show Q _ (.val (.tup [.ptr (L.length + (2 - 2)) 0, .int .i64 0]))
  exact hq
 ·rename_i he
  rw [if_neg he] at hq
  obtain ⟨rfl, rfl⟩ := ho
  have e1 : qf0 L [a, b] [subE s, subE t] = L := by
   show ((L.set a (subE s)).set b (subE t)) ++ [] = _
   rw [e0, List.append_nil]
  rw [e1]
  exact hq
theorem qb4 {f : FuncId} {e e' : Ent} {rest : List AV} {r : AV} (i : Nat) (h : VM Try.prog f e e' (.ptr 0 0 :: rest) r) (hrest : AV.bds 0 rest = true) (hr : r.bd 0 = true) (hq : Q (L.set i e') (.val r)) (hb : e.bd 0 = true := by rfl) (hb' : e'.bd 0 = true := by rfl) (hi : i < L.length := by simp) (he : ent L i = e := by rfl) :
 VApp Try.prog L (.fn f [] []) (.ptr i 0 :: rest) Q := by
 refine qcd i h hq hb hb' hi he hr ?_ ?_
 ·rw [List.append_nil, AV.rens, qj (m := 0) (fun j hj => by omega) rest hrest]; rfl
 ·rw [AV.bds, Bool.and_eq_true]
  exact ⟨rfl, qby (Nat.zero_le _) _ hrest⟩
theorem qxl {l : List Pr} (hs : smlR l) (hl : l.length ≤ 100000) (e : newR l = s) (hq : Q (L ++ [subE s]) (.val (.ptr L.length 0))) : VApp Try.prog L (.fn 33 [] []) [.sl 4 (qr l)] Q := by
 subst e; exact qc4 hs hl hq
theorem qqp (a : Nat) (hs : okS s) (hl : s.length ≤ 40000) (vars : List Int) (e : qdf vars s = t) (hq : Q (L ++ [subE t]) (.val (.ptr L.length 0))) (h0 : ent L a = subE s := by rfl) (ha : a < L.length := by simp) : VApp Try.prog L (.fn 42 [] []) [.ptr a 0, .sl 1 (ints vars)] Q := by
 subst e; exact qpf a hs hl vars hq h0 ha
theorem qma (a b : Nat) {r : List Pr} (hs : okS s) (ht : okS t) (h1 : s.length ≤ 40000) (h2 : t.length ≤ 40000) (hab : a ≠ b) (he : behR s t = (r, 0)) (hq : Q (L ++ [subE r]) (.val (.tup [.ptr L.length 0, .int .i64 0])))
 (h0 : ent L a = subE s := by rfl) (h0' : ent L b = subE t := by rfl) (ha : a < L.length := by simp) (hb : b < L.length := by simp) : VApp Try.prog L (.fn 46 [] []) [.ptr a 0, .ptr b 0] Q := by
 refine qnc a b hs ht h1 h2 hab ?_ h0 h0' ha hb
 rw [he, if_pos rfl]
 exact hq
theorem qr6 (a b : Nat) {r : List Pr} {e : Int} (hs : okS s) (ht : okS t) (h1 : s.length ≤ 40000) (h2 : t.length ≤ 40000) (hab : a ≠ b) (he : behR s t = (r, e)) (hne : e ≠ 0) (hq : Q L (.val (.tup [.nilp, .int .i64 e])))
 (h0 : ent L a = subE s := by rfl) (h0' : ent L b = subE t := by rfl) (ha : a < L.length := by simp) (hb : b < L.length := by simp) : VApp Try.prog L (.fn 46 [] []) [.ptr a 0, .ptr b 0] Q := by
 refine qnc a b hs ht h1 h2 hab ?_ h0 h0' ha hb
 rw [he, if_neg hne]
 exact hq
theorem qge (hs : okS s) (hl : s.length ≤ 100000) {ty : Ty} (q1 : szY ty ≤ 20000) (q2 : dpY ty ≤ 300) : VM Try.prog 35 (subE s) (subE s) [.ptr 0 0, encY ty] (typA (appR s ty)) :=
 qj7 (b := true) (R := bunR (subH s)) (fun v => qm4 hs.1 hl v) hs q1 q2
end
def wT : Ty := ⟨[84], 0, []⟩
def wU : Ty := ⟨[85], 0, []⟩
def wV : Ty := ⟨[86], 0, []⟩
def wB : Ty := ⟨[], 1, []⟩
def wF : Ty := ⟨[45, 62], 0, [Y0, wB]⟩
def wR : Ty := ⟨[45, 62], 0, [wT, wB]⟩
def S1 : List Pr := [⟨0, wT⟩]
def S2 : List Pr := [⟨0, wT⟩, ⟨1, Y0⟩]
def S3 : List Pr := [⟨0, wV⟩]
def S4 : List Pr := [⟨0, wT⟩, ⟨1, wV⟩]
theorem w1 : newR [⟨0, wT⟩, ⟨0, wU⟩] = S1 := by rfl
theorem w3 : newR [⟨0, wV⟩] = S3 := by rfl
theorem S1_ok : okS S1 := w1 ▸ qg7 _
theorem qzz : okS S3 := w3 ▸ qg7 _
theorem w2 : setR S1 1 Y0 = (S2, 0) := by rfl
theorem qsz : okS S2 := by have := qmb S1_ok 1 Y0; rwa [w2] at this
theorem w4 : behR S2 S3 = (S4, 0) := by rfl
theorem S4_ok : okS S4 := by have := qmz qsz qzz; rwa [w4] at this
theorem k0 : VM Try.prog 35 (subE S1) (subE S1) [.ptr 0 0, encY wF] (.tup [encY wR, .int .i64 0]) := qge S1_ok (by decide) (ty := wF) (by decide) (by decide)
theorem k1 : VM Try.prog 45 (subE S1) (subE S1) [.ptr 0 0, .int .i64 0, encY wT] (.int .i64 6) := qd9 S1_ok.1 (by decide) 0 (t := wT) (by decide) (by decide)
theorem k2 : VM Try.prog 45 (subE S1) (subE S2) [.ptr 0 0, .int .i64 1, encY Y0] (.int .i64 0) := qd9 S1_ok.1 (by decide) 1 (t := Y0) (by decide) (by decide)
theorem k4 : VM Try.prog 37 (subE S4) (subE S4) [.ptr 0 0, .int .i64 1] (.tup [encY wV, .bool true]) := qm4 S4_ok.1 (by decide) 1
theorem k5 : VM Try.prog 41 (subE S2) (subE S2) [.ptr 0 0] (.sl 4 (qr S2)) := qc0 (by decide) (qee qsz)
theorem w6 : qdf [1] S2 = [⟨1, Y0⟩] := by rfl
theorem k6 : VM Try.prog 41 (subE [⟨1, Y0⟩]) (subE [⟨1, Y0⟩]) [.ptr 0 0] (.sl 4 (qr [⟨1, Y0⟩])) := qc0 (by decide) (qee (by have := qv2 qsz [1]; rwa [w6] at this))
theorem k7 : qm Try.prog 75 [encY wR] (.str [84, 32, 45, 62, 32, 98]) := qpp (t := wR) (by decide) (by decide) (by decide)
theorem qeb : qm Try.prog 32 [] (.bool true) := by
 refine qf c0v (by simp) rfl rfl fun hw => ?_
 have hv : wV.con = [86] := rfl
 have hl2 : (S2.length : Int) = 2 := rfl
 have hl1 : (([⟨1, Y0⟩] : List Pr).length : Int) = 1 := rfl
 repeat' (first | refine vs_ ?_ | ((first | refine vr_ ?_ | fail) <;> (try simp only [hv, hl2, hl1, go_sem, ↓reduceIte])) | ((first | (refine cs_ ?_ ?_ <;> intro hc) | refine cj_ ?_ | fail | refine qxl (l := [⟨0, wT⟩, ⟨0, wU⟩]) (fun p hp => by simp at hp; rcases hp with rfl | rfl <;> simp [wT, wU, szY, szYs, dpY, dpYs]) (by simp) w1 ?_ | refine qxl (l := [⟨0, wV⟩]) (qee qzz) (by simp) w3 ?_ | refine qb4 1 k0 rfl rfl ?_ | refine qb4 1 k1 rfl rfl ?_ | refine qb4 1 k2 rfl rfl ?_ | refine qma 1 3 qsz qzz (by decide) (by decide) (by decide) w4 ?_ | refine qb4 4 k4 rfl rfl ?_) <;> (try refine ev_ ?_)) | with_reducible exact ti_)
 repeat' (first | refine vs_ ?_ | ((first | refine vr_ ?_ | fail) <;> (try simp only [hv, hl2, hl1, go_sem, ↓reduceIte])) | ((first | (refine cs_ ?_ ?_ <;> intro hc) | refine cj_ ?_ | fail | refine qa k7 fun _ => ?_) <;> (try refine ev_ ?_)) | with_reducible exact ti_)
 repeat' (first | refine vs_ ?_ | ((first | refine vr_ ?_ | fail) <;> (try simp only [hl2, hl1, go_sem, ↓reduceIte])) | ((first | (refine cs_ ?_ ?_ <;> intro hc) | refine cj_ ?_ | fail | refine qb4 1 k5 rfl (by rfl) ?_) <;> (try refine ev_ ?_)) | with_reducible exact ti_)
 ·repeat' (first | refine vs_ ?_ | ((first | refine vr_ ?_ | refine qqp 1 qsz (by decide) [1] w6 ?_ | (refine cs_ ?_ ?_ <;> intro hc) | refine cj_ ?_ | fail) <;> (try refine ev_ ?_)) | with_reducible exact ti_)
  repeat' (first | refine vs_ ?_ | ((first | refine vr_ ?_ | refine qb4 6 k6 rfl (by rfl) ?_ | (refine cs_ ?_ ?_ <;> intro hc) | refine cj_ ?_ | fail) <;> (try refine ev_ ?_)) | with_reducible exact ti_)
 ·exact absurd hl2 hc
set_option maxRecDepth 4000

mutual
theorem qij : ∀ t, qep t t = true
 | .mk c v l => by rw [qep, qgr l]; simp
theorem qgr : ∀ l, qw l l = true
 | [] => by rw [qw]
 | x :: r => by rw [qw, qij x, qgr r]; rfl
end
theorem qro (t : Ty) : qm Try.prog 39 [encY t, encY t] (.bool true) := qc6 (qpt t t) (by rw [qij])
theorem qbh {l : List Pr} (h : fewR l = true) : qm Try.prog 30 [.sl 4 (qr l)] (.int .i64 1) := qc6 (q8b l) (by rw [h]; rfl)
theorem qok {l : List Pr} (h : fewR l = false) : qm Try.prog 30 [.sl 4 (qr l)] (.int .i64 0) := qc6 (q8b l) (by rw [h]; rfl)
theorem qex {l : List Ty} (h : qdi l = true) : qm Try.prog 31 [.sl 3 (qs l)] (.int .i64 1) := qc6 (q1x l) (by rw [h]; rfl)
theorem quw {l : List Ty} (h : qdi l = false) : qm Try.prog 31 [.sl 3 (qs l)] (.int .i64 0) := qc6 (q1x l) (by rw [h]; rfl)
theorem qti {t : Ty} (h : qdi [t] = true) : szY t ≤ 20000 ∧ dpY t ≤ 300 := by
 have := qr1 (l := [t]) (by unfold maxLen; simp) h
 have h1 := qi3 (l := [t]) (x := t) (by simp)
 have h2 := qmn (l := [t]) (x := t) (by simp)
 omega
theorem qwy {s : List Pr} (h : okS s) {t : Ty} (he : (appR s t).2 = 0) : szY (appR s t).1 ≤ 20000 ∧ dpY (appR s t).1 ≤ 300 := by
 obtain ⟨_, q2, q3⟩ := qcz h he
 rw [q3]
 have := (qbb _).1 q2
 omega
theorem qxc {s t : List Pr} (hs : okS s) (ht : okS t) : (behR s t).1.length ≤ s.length + t.length := by
 rw [qsh hs ht]
 split
 ·have h1 := qf5 t (q6 t [] s).1
  have h2 := qeo t s []
  simp only [List.length_nil] at h2
  simp only
  omega
 ·simp
theorem qwp (a b : List Pr) (ty : Ty) : qm Try.prog 8 [.sl 4 (qr a), .sl 4 (qr b), encY ty] (.bool true) := by
 refine qf c0u (by simp) (by simp only [AV.bds, AV.bd, qb0, qbw, Bool.and_true]) rfl fun hw => ?_
 have hla := (qjt hw.1).1
 have hlb := (qjt hw.2.1).1
 by_cases hfa : fewR a = true
 case neg =>
  have hfa : fewR a = false := by simpa using hfa
  repeat' (first | refine vs_ ?_ | ((first | refine vr_ ?_ | refine qa (qok hfa) fun _ => ?_ | refine qa qeb fun _ => ?_ | (refine cs_ ?_ ?_ <;> intro hc) | refine cj_ ?_ | fail) <;> (try refine ev_ ?_)) | with_reducible exact ti_)
 by_cases hfb : fewR b = true
 case neg =>
  have hfb : fewR b = false := by simpa using hfb
  repeat' (first | refine vs_ ?_ | ((first | refine vr_ ?_ | refine qa (qbh hfa) fun _ => ?_ | refine qa (qok hfb) fun _ => ?_ | refine qa qeb fun _ => ?_ | (refine cs_ ?_ ?_ <;> intro hc) | refine cj_ ?_ | fail) <;> (try refine ev_ ?_)) | with_reducible exact ti_)
 by_cases hft : qdi [ty] = true
 case neg =>
  have hft : qdi [ty] = false := by simpa using hft
  repeat' (first | refine vs_ ?_ | ((first | refine vr_ ?_ | refine qa (qbh hfa) fun _ => ?_ | refine qa (qbh hfb) fun _ => ?_ | refine qa (quw hft) fun _ => ?_ | refine qa qeb fun _ => ?_ | (refine cs_ ?_ ?_ <;> intro hc) | refine cj_ ?_ | fail) <;> (try refine ev_ ?_)) | with_reducible exact ti_)
 obtain ⟨ha1, ha2⟩ := qom hla hfa
 obtain ⟨hb1', hb2'⟩ := qom hlb hfb
 obtain ⟨ht1, ht2⟩ := qti hft
 have hS := qg7 a
 have hT := qg7 b
 have hSl := qje a
 have hTl := qje b
 have hAS := qge hS (by omega) ht1 ht2
 have hT0 : ∀ p : Ty × Int, typA p = .tup [encY p.1, .int .i64 p.2] := fun _ => rfl
 have hbd : ∀ p : Ty × Int, AV.bd 0 (.tup [encY p.1, .int .i64 p.2]) = true := fun p => qi9 0 p
 have hby : ∀ t, AV.bds 0 [encY t] = true := fun t => by simp only [AV.bds, qbw, Bool.and_true]
 rw [hT0] at hAS
 by_cases hf : (appR (newR a) ty).2 = 0
 ·have hfd : decide ((appR (newR a) ty).2 = 0) = true := decide_eq_true hf
  have hlaw := fun he => qwx hS hT he hf
  obtain ⟨m1, m2⟩ := qwy hS hf
  have hAT := qge hT (by omega) m1 m2
  rw [hT0] at hAT
  rw [hf] at hAS
  have hb1 := hbd ((appR (newR a) ty).1, 0)
  have hb2 := hbd (appR (newR b) (appR (newR a) ty).1)
  by_cases he : (behR (newR a) (newR b)).2 = 0
  ·have he' : behR (newR a) (newR b) = ((behR (newR a) (newR b)).1, 0) := by rw [← he]
   have hBok := qmz hS hT
   have hBl : (behR (newR a) (newR b)).1.length ≤ 100000 := by have := qxc hS hT; omega
   have hAB := qge hBok hBl ht1 ht2
   rw [hT0, ← hlaw he] at hAB
   generalize appR (newR b) (appR (newR a) ty).1 = X at hAT hAB hb2
   generalize (behR (newR a) (newR b)).1 = B at he' hAB
   have hsm := qro X.1
   repeat' (first | refine vs_ ?_ | ((first | refine vr_ ?_ | refine qa (qbh hfa) fun _ => ?_ | refine qa (qbh hfb) fun _ => ?_ | refine qa (qex hft) fun _ => ?_ | refine qa qeb fun _ => ?_ | refine qa hsm fun _ => ?_ | refine qc4 ha2 (by omega) ?_ | refine qc4 hb2' (by omega) ?_ | refine qma 1 2 hS hT (by omega) (by omega) (by decide) he' ?_ | refine qb4 1 hAS (hby _) hb1 ?_ | refine qb4 2 hAT (hby _) hb2 ?_ | refine qb4 3 hAB (hby _) hb2 ?_ | (refine cs_ ?_ ?_ <;> intro hc) | refine cj_ ?_ | fail) <;> (try refine ev_ ?_)) | with_reducible exact ti_)
   all_goals (exfalso; revert hc; simp)
  ·have he' : behR (newR a) (newR b) = ((behR (newR a) (newR b)).1, (behR (newR a) (newR b)).2) := rfl
   generalize (behR (newR a) (newR b)).1 = B at he'
   generalize (behR (newR a) (newR b)).2 = e at he' he
   have hde : decide (e = 0) = false := decide_eq_false he
   repeat' (first | refine vs_ ?_ | ((first | refine vr_ ?_ | fail) <;> (try simp only [hde, hfd, go_sem, ↓reduceIte])) | ((first | (refine cs_ ?_ ?_ <;> intro hc) | refine cj_ ?_ | fail | refine qa (qbh hfa) fun _ => ?_ | refine qa (qbh hfb) fun _ => ?_ | refine qa (qex hft) fun _ => ?_ | refine qa qeb fun _ => ?_ | refine qc4 ha2 (by omega) ?_ | refine qc4 hb2' (by omega) ?_ | refine qr6 1 2 hS hT (by omega) (by omega) (by decide) he' he ?_ | refine qb4 1 hAS (hby _) hb1 ?_) <;> (try refine ev_ ?_)) | with_reducible exact ti_)
 ·have hz := qwg hS hf
  rw [hz] at hAS
  have hb1 := hbd (Y0, (appR (newR a) ty).2)
  generalize (appR (newR a) ty).2 = e2 at hAS hb1 hf
  have hd2 : decide (e2 = 0) = false := decide_eq_false hf
  have hy0 : decide (((Y0.args.length : Nat) : Int) = 0) = true := rfl
  by_cases he : (behR (newR a) (newR b)).2 = 0
  ·have he' : behR (newR a) (newR b) = ((behR (newR a) (newR b)).1, 0) := by rw [← he]
   generalize (behR (newR a) (newR b)).1 = B at he'
   repeat' (first | refine vs_ ?_ | ((first | refine vr_ ?_ | fail) <;> (try simp only [hd2, hy0, go_sem, ↓reduceIte])) | ((first | (refine cs_ ?_ ?_ <;> intro hc) | refine cj_ ?_ | fail | refine qa (qbh hfa) fun _ => ?_ | refine qa (qbh hfb) fun _ => ?_ | refine qa (qex hft) fun _ => ?_ | refine qa qeb fun _ => ?_ | refine qc4 ha2 (by omega) ?_ | refine qc4 hb2' (by omega) ?_ | refine qma 1 2 hS hT (by omega) (by omega) (by decide) he' ?_ | refine qb4 1 hAS (hby _) hb1 ?_) <;> (try refine ev_ ?_)) | with_reducible exact ti_)
  ·have he' : behR (newR a) (newR b) = ((behR (newR a) (newR b)).1, (behR (newR a) (newR b)).2) := rfl
   generalize (behR (newR a) (newR b)).1 = B at he'
   generalize (behR (newR a) (newR b)).2 = e at he' he
   have hde : decide (e = 0) = false := decide_eq_false he
   repeat' (first | refine vs_ ?_ | ((first | refine vr_ ?_ | fail) <;> (try simp only [hde, hd2, hy0, go_sem, ↓reduceIte])) | ((first | (refine cs_ ?_ ?_ <;> intro hc) | refine cj_ ?_ | fail | refine qa (qbh hfa) fun _ => ?_ | refine qa (qbh hfb) fun _ => ?_ | refine qa (qex hft) fun _ => ?_ | refine qa qeb fun _ => ?_ | refine qc4 ha2 (by omega) ?_ | refine qc4 hb2' (by omega) ?_ | refine qr6 1 2 hS hT (by omega) (by omega) (by decide) he' he ?_ | refine qb4 1 hAS (hby _) hb1 ?_) <;> (try refine ev_ ?_)) | with_reducible exact ti_)
end Go.Proofs.Ytfpobiheiloamaa
