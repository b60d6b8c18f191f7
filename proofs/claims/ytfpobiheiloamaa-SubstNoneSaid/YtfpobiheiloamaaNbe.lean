/- Texts of this proof, joined. -/
import Derived.Test.YtfpobiheiloamaaNbc
import Derived.Test.YtfpobiheiloamaaNbd
import Derived.Test.YtfpobiheiloamaaNaw

/- substitutions: new ones, types and their pairs -/
set_option maxRecDepth 4000
namespace Go.Proofs.Ytfpobiheiloamaa
open Go Go.RowKit Go.V
set_option linter.unusedVariables false
set_option linter.unusedSimpArgs false

theorem qfo {l : List Pr} {i : Nat} (h : i < l.length) : l.take (i + 1) = l.take i ++ [l.getD i R0] := by
 rw [List.take_add_one, List.getD_eq_getElem?_getD, List.getElem?_eq_getElem h]; rfl
def smlR (l : List Pr) : Prop := ∀ p ∈ l, szY p.ty ≤ 20000 ∧ dpY p.ty ≤ 300
theorem qlu {l : List Pr} (hs : smlR l) (hl : l.length ≤ 100000) : VCalls Try.prog 33 [] [.sl 4 (qk l)] fun H' o => H' = [subE (newR l)] ∧ o = .val (.ptr 0 0) := by
 refine qn c0bk 1 (by simp) (by simp) ?_
 repeat' (first | refine vs_ ?_ | ((first | refine vr_ ?_ | (refine cs_ ?_ ?_ <;> intro hc) | refine cj_ ?_ | simp (disch := omega) only [encs_getN, qb]) <;> (try refine ev_ ?_)) | with_reducible exact ti_)
 refine q1k 0 rfl rfl ?_
 refine qm (S := Nat) (fun i => i ≤ l.length) (fun i => (⟨[(3, .ptr 0 0), (8, .sl 4 (qk l)), (9, .int .i64 l.length), (10, .int .i64 i)], []⟩, [subE (newR (l.take i))])) (fun i => l.length - i) ?_ fun i hi => ?_
 ·refine qj 0 [0] (Nat.zero_le _) rfl (by simp) ?_ ?_ ?_ <;> simp only [List.take_zero, newR, addR, qgq] <;> (try refine ev_ ?_) <;> (try with_reducible exact ti_) <;> (try simp (disch := omega) only [qb, and_true, true_and])
  all_goals rfl
 ·by_cases hlt : i < l.length
  ·have hok := qka (l.take i)
   have hln := qpp (l.take i)
   rw [List.length_take] at hln
   have hm := hs _ (qbz hlt)
   have hn : newR (l.take (i + 1)) = (setR (newR (l.take i)) (l.getD i R0).v (l.getD i R0).ty).1 := by rw [qfo hlt, newR, qgy]; rfl
   have hp := qh hlt
   repeat' (first | refine vs_ ?_ | ((first | refine vr_ ?_ | fail) <;> (try simp (disch := first | omega | (simp only [List.length_set, List.length_append, List.length_cons, List.length_nil]; done) | (simp only [List.length_set, List.length_append, List.length_cons, List.length_nil]; omega)) only [hp, qb, go_sem, ↓reduceIte])) | ((first | simp (disch := omega) only [hp] | (refine cs_ ?_ ?_ <;> intro hc) | refine cj_ ?_ | simp (disch := omega) only [encs_getN, qb] | refine qca 0 (qd3 hok.1 (by omega) _ hm.1 hm.2) ?_) <;> (try refine ev_ ?_)) | with_reducible exact ti_)
   ·refine qj (i + 1) [0] ⟨by omega, by omega⟩ rfl (by simp) ?_ ?_ ?_ <;> simp only [hn] <;> (try refine ev_ ?_) <;> (try with_reducible exact ti_) <;> (try simp (disch := omega) only [qb, and_true, true_and])
    all_goals rw [q7 (by omega) (by omega), Int.natCast_add]; rfl
   ·exfalso; omega
  ·have hie : i = l.length := by omega
   subst hie
   rw [List.take_length]
   repeat' (first | refine vs_ ?_ | ((first | refine vr_ ?_ | (refine cs_ ?_ ?_ <;> intro hc) | refine cj_ ?_ | simp (disch := omega) only [encs_getN, qb]) <;> (try refine ev_ ?_)) | with_reducible exact ti_)
   all_goals (exfalso; omega)
set_option maxRecDepth 4000

theorem qh6 {R : World → (Nat → Nat → Prop) → Gh → Prop} {b : Bool} {s : List Pr} (hG : ∀ v, VM Try.prog 37 (.cus R) (.cus R) [svA b 0, .int .i64 v] (getV s v)) (hs : okS s) {t : Ty} (h1 : szY t ≤ 20000) (h2 : dpY t ≤ 300) :
 VM Try.prog 35 (.cus R) (.cus R) [svA b 0, encY t] (typA (appR s t)) := by
 refine qn c0bj 1 (by simp) (by simp) ?_
 have hLg := qb9 h1 h2
 rw [← q7u hs]
 by_cases hlg : qr t = true
 ·obtain ⟨q1, q2, q3⟩ := (qbf t).1 hlg
  have hput := q1w hG (qnh hs) t (qci t q3) h1 4096 1 (by omega) (by omega) (by omega) (by omega)
  rw [hlg] at hLg
  by_cases hn : (bput s t 4096 1).1 < 0
  ·have hnd : decide ((bput s t 4096 1).1 < 0) = true := decide_eq_true hn
   rw [appP, if_pos hlg, if_pos hn]
   repeat' (first | refine vs_ ?_ | ((first | refine vr_ ?_ | fail) <;> (try simp only [hnd, go_sem, ↓reduceIte])) | ((first | (refine cs_ ?_ ?_ <;> intro hc) | refine cj_ ?_ | fail | refine qa hLg fun _ => ?_ | refine qnt 3 0 hput (by simp) ?_) <;> (try refine ev_ ?_)) | with_reducible exact ti_)
   all_goals rfl
  ·have hnd : decide ((bput s t 4096 1).1 < 0) = false := decide_eq_false hn
   rw [appP, if_pos hlg, if_neg hn]
   repeat' (first | refine vs_ ?_ | ((first | refine vr_ ?_ | fail) <;> (try simp only [hnd, go_sem, ↓reduceIte])) | ((first | (refine cs_ ?_ ?_ <;> intro hc) | refine cj_ ?_ | fail | refine qa hLg fun _ => ?_ | refine qnt 3 0 hput (by simp) ?_) <;> (try refine ev_ ?_)) | with_reducible exact ti_)
   all_goals rfl
 ·rw [appP, if_neg hlg]
  have hlg : qr t = false := by simpa using hlg
  rw [hlg] at hLg
  repeat' (first | refine vs_ ?_ | ((first | refine vr_ ?_ | refine qa hLg fun _ => ?_ | (refine cs_ ?_ ?_ <;> intro hc) | refine cj_ ?_ | fail) <;> (try refine ev_ ?_)) | with_reducible exact ti_)
  all_goals rfl
set_option maxRecDepth 4000

def zR : AV := .agg [.int .i64 0, .str [], .int .i64 0, .nils]
def cpR (l : List Pr) (i : Nat) : List AV := qk (l.take i) ++ List.replicate (l.length - i) zR
theorem q6y {l : List Pr} {i : Nat} (h : i ≤ l.length) : (cpR l i).length = l.length := by
 rw [cpR, List.length_append, qb0, List.length_take, List.length_replicate]; omega
theorem qbgv (l : List Pr) : cpR l 0 = List.replicate l.length zR := by rw [cpR, List.take_zero, quy, Nat.sub_zero]; rfl
theorem q37 (l : List Pr) : cpR l l.length = qk l := by rw [cpR, List.take_length, Nat.sub_self, List.replicate_zero, List.append_nil]
theorem qrx {l : List Pr} {i : Nat} (h : i < l.length) : (cpR l i).set i (encR (l.getD i R0)) = cpR l (i + 1) := by
 have h2 : (qk (l.take i)).length = i := by rw [qb0, List.length_take]; omega
 obtain ⟨k, hk⟩ : ∃ k, l.length - i = k + 1 := ⟨l.length - i - 1, by omega⟩
 have hk2 : l.length - (i + 1) = k := by omega
 rw [cpR, cpR, hk, hk2, List.replicate_succ, qfo h, ← qp7, List.set_append_right _ _ (by omega), h2, Nat.sub_self, List.set_cons_zero, List.append_assoc]
 rfl
theorem qpf (k : Nat) (l : List Pr) (i : Nat) : AV.bds k (cpR l i) = true := by
 rw [cpR, qf7, qbh, qdi]
 simp [zR, AV.bd, AV.bds]
theorem qno (σ : Nat → Nat) (l : List Pr) (i : Nat) : AV.rens σ (cpR l i) = cpR l i := qp (m := 0) (fun i hi => by omega) _ (qpf 0 l i)
attribute [go_sem] qpf qno
theorem qu9 : VCalls Try.prog 41 [.blk [.nils]] [.ptr 0 0] (qdm fun H' o => H' = [subE []] ∧ o = .val (.sl 4 (qk []))) := by
 refine qn c0bg 1 (by simp) (by simp) ?_
 repeat' (first | refine vs_ ?_ | ((first | refine vr_ ?_ | (refine cs_ ?_ ?_ <;> intro hc) | refine cj_ ?_ | simp (disch := omega) only [encs_getN, qb]) <;> (try refine ev_ ?_)) | with_reducible exact ti_)
 refine qm (S := Unit) (fun _ => True) (fun _ => (⟨[(3, .row 1 0), (18, .int .i64 (0 : Nat)), (19, .int .i64 (0 : Nat))], []⟩, [.blk [.nils], .mrow 4 []])) (fun _ => 0) ?_ fun x hx => ?_
 ·refine qj () [0, 1] trivial rfl (by simp) ?_ ?_ ?_ <;> (try refine ev_ ?_) <;> (try with_reducible exact ti_) <;> (try simp (disch := omega) only [qb, and_true, true_and])
  all_goals rfl
 ·refine qds 1 rfl (fun v hv => by simp at hv) ?_
  repeat' (first | refine vs_ ?_ | ((first | refine vr_ ?_ | (refine cs_ ?_ ?_ <;> intro hc) | refine cj_ ?_ | simp (disch := omega) only [encs_getN, qb]) <;> (try refine ev_ ?_)) | with_reducible exact ti_)
  ·exact absurd hc (by omega)
  ·exact qeg rfl (by simp) rfl ⟨rfl, rfl⟩
theorem qys {s : List Pr} (hs : s ≠ []) (hl : s.length ≤ 100000) (ho : smlR s) : VCalls Try.prog 41 [.blk [.row 1 s.length], qbl s] [.ptr 0 0] (qdm fun H' o => H' = [subE s] ∧ o = .val (.sl 4 (qk s))) := by
 refine qn c0bg 2 (by simp) (by simp) ?_
 repeat' (first | refine vs_ ?_ | ((first | refine vr_ ?_ | (refine cs_ ?_ ?_ <;> intro hc) | refine cj_ ?_ | simp (disch := omega) only [encs_getN, qb]) <;> (try refine ev_ ?_)) | with_reducible exact ti_)
 have hm : s.length ≤ maxLen := by unfold maxLen; omega
 refine ⟨hm, ⟨by omega, by omega⟩, ?_⟩
 repeat' (first | refine vs_ ?_ | ((first | refine vr_ ?_ | (refine cs_ ?_ ?_ <;> intro hc) | refine cj_ ?_ | simp (disch := omega) only [encs_getN, qb]) <;> (try refine ev_ ?_)) | with_reducible exact ti_)
 refine qm (S := Nat) (fun i => i ≤ s.length) (fun i => (⟨[(3, .row 2 s.length), (17, .row 1 s.length), (18, .int .i64 s.length), (19, .int .i64 i)], []⟩, [.blk [.row 1 s.length], qbl s, .mrow 4 (cpR s i)])) (fun i => s.length - i) ?_ fun i hi => ?_
 ·refine qj 0 [0, 1, 2] (Nat.zero_le _) rfl (by simp) ?_ ?_ ?_ <;> simp only [qbgv, zR] <;> (try refine ev_ ?_) <;> (try with_reducible exact ti_) <;> (try simp (disch := omega) only [qb, and_true, true_and])
  all_goals
   rw [show List.replicate s.length (AV.agg [AV.int .i64 0, AV.str [], AV.int .i64 0, AV.nils]) = cpR s 0 from (qbgv _).symm]
   exact ⟨qpf _ _ _, by rw [qno]⟩
 ·by_cases hlt : i < s.length
  ·have hp := qh hlt
   have hc := q6y hi
   have hcp := qco (s.getD i R0).ty (by have := (ho _ (qbz hlt)).1; omega)
   repeat' (first | refine vs_ ?_ | ((first | refine vr_ ?_ | fail) <;> (try simp (disch := first | omega | (simp only [List.length_set, List.length_append, List.length_cons, List.length_nil]; done) | (simp only [List.length_set, List.length_append, List.length_cons, List.length_nil]; omega)) only [hp, qb, go_sem, ↓reduceIte])) | ((first | simp (disch := omega) only [hp] | (refine cs_ ?_ ?_ <;> intro hc) | refine cj_ ?_ | simp (disch := omega) only [encs_getN, qb] | refine qa hcp fun _ => ?_ | refine qf hcp ?_) <;> (try refine ev_ ?_)) | with_reducible exact ti_)
   ·refine qj (i + 1) [0, 1, 2] ⟨by omega, by omega⟩ rfl (by simp) ?_ ?_ ?_ <;> simp only [← qrx hlt] <;> (try refine ev_ ?_) <;> (try with_reducible exact ti_) <;> (try simp (disch := omega) only [qb, and_true, true_and])
    all_goals (rw [qrx hlt]; exact ⟨qpf _ _ _, by rw [qno]⟩)
   ·exfalso; omega
  ·have hie : i = s.length := by omega
   subst hie
   rw [q37]
   refine qds 2 rfl (qjk _) ?_
   repeat' (first | refine vs_ ?_ | ((first | refine vr_ ?_ | (refine cs_ ?_ ?_ <;> intro hc) | refine cj_ ?_ | simp (disch := omega) only [encs_getN, qb]) <;> (try refine ev_ ?_)) | with_reducible exact ti_)
   all_goals try (exfalso; omega)
   all_goals exact qcm 1 hs rfl rfl (by simp) (by simp) (by simp [AV.bd, qbh]) ⟨rfl, rfl⟩
theorem qb1 {s : List Pr} (hl : s.length ≤ 100000) (ho : smlR s) : VM Try.prog 41 (subE s) (subE s) [.ptr 0 0] (.sl 4 (qk s)) := by
 by_cases hs : s = []
 ·subst hs
  exact qi3 (by rw [qgq]; exact qu9) rfl
 ·exact qi3 (by have := qys hs hl ho; rwa [← qj0 hs] at this) rfl
set_option maxRecDepth 4000

section
variable {P : Program} {f : FuncId} {e : Ent} {L : List Ent} {args : List AV} {Q : List Ent → VO → Prop}
theorem qc8 (h : VCalls P f [] args fun H' o => H' = [e] ∧ o = .val (.ptr 0 0)) (hb : e.bd 0 = true) (ha : AV.bds 0 args = true) (hq : Q (L ++ [e]) (.val (.ptr L.length 0))) : VApp P L (.fn f [] []) args Q := by
 refine qvz h ha fun H1 o ho => ?_
 obtain ⟨rfl, rfl⟩ := ho
 have e1 : qfs L [] [e] = L ++ [e] := by
  show L ++ [e.ren _] = _
  rw [Ent.ren_bd0 hb]
 rw [e1]
 exact hq
end
theorem qdf {s : List Pr} (h : okS s) : smlR s := fun p hp => by
 have := (qbf _).1 (h.2 p hp)
 omega
theorem qfe : VCalls Try.prog 33 [] [.sl 4 []] fun H' o => H' = [subE []] ∧ o = .val (.ptr 0 0) := qlu (l := []) (fun p hp => by simp at hp) (by simp)
theorem q9w {s : List Pr} (ho : risR s) {i : Nat} (h : i < s.length) : ∀ p ∈ s.take i, p.v < (s.getD i R0).v := fun p hp => by
 obtain ⟨j, hj⟩ := List.mem_iff_getElem?.1 hp
 have hjl := (List.getElem?_eq_some_iff.1 hj).1
 rw [List.length_take] at hjl
 rw [List.getElem?_take] at hj
 split at hj
 ·have := qoc ho j i (by omega) h
  rw [List.getD_eq_getElem?_getD, hj] at this
  exact this
 ·cases hj
theorem qrs {vars : List Int} {s : List Pr} (ho : okS s) {i : Nat} (h : i < s.length) (hv : (s.getD i R0).v ∈ vars) : (setR (qdj vars (s.take i)) (s.getD i R0).v (s.getD i R0).ty).1 = qdj vars (s.take (i + 1)) := by
 rw [qjg vars h, if_pos hv, qkf (ho.2 _ (qbz h))]
 exact fun p hp => q9w ho.1 h p (List.mem_filter.1 hp).1
theorem qxm {s : List Pr} (ho : risR s) (i : Nat) : risR (s.take i) := by
 induction s generalizing i with
 | nil => simp; exact trivial
 | cons p r ih =>
   cases i with
   | zero => exact trivial
   | succ i => exact ⟨fun q hq => ho.1 q (List.mem_of_mem_take hq), ih ho.2 i⟩
theorem qqx {s : List Pr} (hs : okS s) (hl : s.length ≤ 40000) (vars : List Int) : VCalls Try.prog 42 [subE s] [.ptr 0 0, .sl 1 (ints vars)] fun H' o => H' = [subE s, subE (qdj vars s)] ∧ o = .val (.ptr 1 0) := by
 refine qn c0be 2 (by simp) (by simp) ?_
 repeat' (first | refine vs_ ?_ | ((first | refine vr_ ?_ | refine qc8 qfe rfl rfl ?_ | refine qca 0 (qb1 (by omega) (qdf hs)) ?_ | (refine cs_ ?_ ?_ <;> intro hc) | refine cj_ ?_ | simp (disch := omega) only [encs_getN, qb]) <;> (try refine ev_ ?_)) | with_reducible exact ti_)
 refine qm (S := Nat) (fun i => i ≤ s.length) (fun i => (⟨[(1, .sl 1 (ints vars)), (5, .ptr 1 0), (10, .sl 4 (qk s)), (11, .int .i64 s.length), (12, .int .i64 i)], []⟩, [subE s, subE (qdj vars (s.take i))])) (fun i => s.length - i) ?_ fun i hi => ?_
 ·refine qj 0 [0, 1] (Nat.zero_le _) rfl (by simp) ?_ ?_ ?_ <;> simp only [List.take_zero, qdj, List.filter_nil] <;> (try refine ev_ ?_) <;> (try with_reducible exact ti_) <;> (try simp (disch := omega) only [qb, and_true, true_and])
 ·by_cases hlt : i < s.length
  ·have hp := qh hlt
   have hm := qdf hs _ (qbz hlt)
   have hwl := qsf vars (s.take i)
   rw [List.length_take] at hwl
   have hris : risR (qdj vars (s.take i)) := qd8 _ (qxm hs.1 i)
   by_cases hv : (s.getD i R0).v ∈ vars
   ·have hn := qrs hs hlt hv
    have hvd : decide ((s.getD i R0).v ∈ vars) = true := decide_eq_true hv
    repeat' (first | refine vs_ ?_ | ((first | refine vr_ ?_ | fail) <;> (try simp (disch := first | omega | (simp only [List.length_set, List.length_append, List.length_cons, List.length_nil]; done) | (simp only [List.length_set, List.length_append, List.length_cons, List.length_nil]; omega)) only [hp, qb, hvd, go_sem, ↓reduceIte])) | ((first | simp (disch := omega) only [hp] | simp (disch := omega) only [hvd] | (refine cs_ ?_ ?_ <;> intro hc) | refine cj_ ?_ | simp (disch := omega) only [encs_getN, qb] | refine qa (qd4 vars _) fun _ => ?_ | refine qca 1 (qd3 hris (by omega) _ hm.1 hm.2) ?_) <;> (try refine ev_ ?_)) | with_reducible exact ti_)
    ·refine qj (i + 1) [0, 1] ⟨by omega, by omega⟩ rfl (by simp) ?_ ?_ ?_ <;> simp only [hn] <;> (try refine ev_ ?_) <;> (try with_reducible exact ti_) <;> (try simp (disch := omega) only [qb, and_true, true_and])
     all_goals rw [q7 (by omega) (by omega), Int.natCast_add]; rfl
    ·exfalso; omega
   ·have hn := qjg vars hlt
    rw [if_neg hv, List.append_nil] at hn
    have hvd : decide ((s.getD i R0).v ∈ vars) = false := decide_eq_false hv
    repeat' (first | refine vs_ ?_ | ((first | refine vr_ ?_ | fail) <;> (try simp (disch := first | omega | (simp only [List.length_set, List.length_append, List.length_cons, List.length_nil]; done) | (simp only [List.length_set, List.length_append, List.length_cons, List.length_nil]; omega)) only [hp, qb, hvd, go_sem, ↓reduceIte])) | ((first | simp (disch := omega) only [hp] | simp (disch := omega) only [hvd] | (refine cs_ ?_ ?_ <;> intro hc) | refine cj_ ?_ | simp (disch := omega) only [encs_getN, qb] | refine qa (qd4 vars _) fun _ => ?_) <;> (try refine ev_ ?_)) | with_reducible exact ti_)
    ·refine qj (i + 1) [0, 1] ⟨by omega, by omega⟩ rfl (by simp) ?_ ?_ ?_ <;> simp only [hn] <;> (try refine ev_ ?_) <;> (try with_reducible exact ti_) <;> (try simp (disch := omega) only [qb, and_true, true_and])
     all_goals rw [q7 (by omega) (by omega), Int.natCast_add]; rfl
    ·exfalso; omega
  ·have hie : i = s.length := by omega
   subst hie
   rw [List.take_length]
   repeat' (first | refine vs_ ?_ | ((first | refine vr_ ?_ | (refine cs_ ?_ ?_ <;> intro hc) | refine cj_ ?_ | simp (disch := omega) only [encs_getN, qb]) <;> (try refine ev_ ?_)) | with_reducible exact ti_)
   all_goals (exfalso; omega)
set_option maxRecDepth 4000

theorem qg9 (t : List Pr) (b : List Pr) : ∀ (a acc : List Pr), (qbd t acc a).2 = 0 → qbd t acc (a ++ b) = qbd t (qbd t acc a).1 b
 | [], acc, _ => rfl
 | p :: r, acc, h => by
   rw [qbd] at h
   rw [List.cons_append, qbd, qbd]
   split at h
   ·rename_i h0
    rw [if_pos h0, if_pos h0, qg9 t b r _ h]
   ·rename_i h0
    exact absurd h h0
theorem qkt {t : List Pr} : ∀ (a : List Pr) {acc : List Pr}, okS acc → okS (qbd t acc a).1
 | [], _, h => h
 | p :: r, acc, h => by
   rw [qbd]
   split
   ·exact qkt r (qnm h _ _)
   ·exact qdo
theorem qh9 (t : List Pr) : ∀ (a acc : List Pr), (qbd t acc a).1.length ≤ acc.length + a.length
 | [], acc => by simp [qbd]
 | p :: r, acc => by
   rw [qbd, List.length_cons]
   split
   ·have h1 := qh9 t r (setR acc p.v (appR t p.ty).1).1
    have h2 := qo2 acc p.v (appR t p.ty).1
    omega
   ·simp
theorem q7j {s t : List Pr} (hs : okS s) (ht : okS t) : behR s t = if (qbd t [] s).2 = 0 then (addR (qbd t [] s).1 t, 0) else ([], (qbd t [] s).2) := by
 rw [behR, ← qph ht s [] hs.1 (fun p hp => by simp at hp)]
theorem qwm {s t : List Pr} {i : Nat} (h : i < s.length) (h0 : (qbd t [] (s.take i)).2 = 0) : qbd t [] s = qbd t (qbd t [] (s.take i)).1 (s.getD i R0 :: s.drop (i + 1)) := by
 have := qg9 t (s.drop i) (s.take i) [] h0
 rwa [List.take_append_drop, qyd h] at this
theorem qog {s t : List Pr} {i : Nat} (h : i < s.length) (h0 : (qbd t [] (s.take i)).2 = 0) (ha : (appR t (s.getD i R0).ty).2 = 0) : qbd t [] (s.take (i + 1)) = ((setR (qbd t [] (s.take i)).1 (s.getD i R0).v (appR t (s.getD i R0).ty).1).1, 0) := by
 rw [qfo h, qg9 t _ _ _ h0, qbd, if_pos ha, qbd]
theorem qjh {s t : List Pr} {i : Nat} (h : i < s.length) (h0 : (qbd t [] (s.take i)).2 = 0) (ha : (appR t (s.getD i R0).ty).2 ≠ 0) : qbd t [] s = ([], (appR t (s.getD i R0).ty).2) := by
 rw [qwm h h0, qbd, if_neg ha]
def newQ (L : List Ent) (p : List Pr × Int) (H' : List Ent) (o : VO) : Prop :=
 if p.2 = 0 then H' = L ++ [subE p.1] ∧ o = .val (.tup [.ptr L.length 0, .int .i64 0]) else H' = L ∧ o = .val (.tup [.nilp, .int .i64 p.2])
theorem qya {s t : List Pr} (hs : okS s) (ht : okS t) (h1 : s.length ≤ 40000) (h2 : t.length ≤ 40000) : VCalls Try.prog 46 [subE s, subE t] [.ptr 0 0, .ptr 1 0] (newQ [subE s, subE t] (behR s t)) := by
 have hms := qdf hs
 have hmt := qdf ht
 have hA : ∀ ty, szY ty ≤ 20000 → dpY ty ≤ 300 → VM Try.prog 35 (subE t) (subE t) [.ptr 0 0, encY ty] (typA (appR t ty)) := fun ty q1 q2 => qh6 (b := true) (R := bunR (subH t)) (fun v => qm1 ht.1 (by omega) v) ht q1 q2
 have hstep : ∀ i, i < s.length → (qbd t [] (s.take i)).2 = 0 → risR (qbd t [] (s.take i)).1 ∧ (qbd t [] (s.take i)).1.length ≤ 40000 := fun i hi h0 => by
  have := qh9 t (s.take i) []
  rw [List.length_take] at this
  exact ⟨(qkt (s.take i) qdo).1, by simp at this; omega⟩
 have hap : ∀ i, i < s.length → (appR t (s.getD i R0).ty).2 = 0 → szY (appR t (s.getD i R0).ty).1 ≤ 20000 ∧ dpY (appR t (s.getD i R0).ty).1 ≤ 300 := fun i hi h0 => by
  obtain ⟨_, q2, q3⟩ := qf3 ht h0
  rw [q3]
  have := (qbf _).1 q2
  omega
 rw [q7j hs ht]
 by_cases he : (qbd t [] s).2 = 0
 ·rw [if_pos he]
  refine qn c0bf 3 (by simp) (by simp) ?_
  repeat' (first | refine vs_ ?_ | ((first | refine vr_ ?_ | refine qc8 qfe rfl rfl ?_ | refine qca 0 (qb1 (by omega) hms) ?_ | (refine cs_ ?_ ?_ <;> intro hc) | refine cj_ ?_ | simp (disch := omega) only [encs_getN, qb]) <;> (try refine ev_ ?_)) | with_reducible exact ti_)
  refine qm (S := Nat) (fun i => i ≤ s.length ∧ (qbd t [] (s.take i)).2 = 0) (fun i => (⟨[(1, .ptr 1 0), (6, .ptr 2 0), (15, .sl 4 (qk s)), (16, .int .i64 s.length), (17, .int .i64 i)], []⟩, [subE s, subE t, subE (qbd t [] (s.take i)).1])) (fun i => s.length - i) ?_ fun i hi => ?_
  ·refine qj 0 [0, 1, 2] ⟨Nat.zero_le _, rfl⟩ rfl (by simp) ?_ ?_ ?_ <;> simp only [List.take_zero, qbd] <;> (try refine ev_ ?_) <;> (try with_reducible exact ti_) <;> (try simp (disch := omega) only [qb, and_true, true_and])
  ·obtain ⟨hi, h0⟩ := hi
   by_cases hlt : i < s.length
   ·have hp := qh hlt
    have hm := hms _ (qbz hlt)
    obtain ⟨a1, a2⟩ := hstep i hlt h0
    by_cases ha : (appR t (s.getD i R0).ty).2 = 0
    ·obtain ⟨b1, b2⟩ := hap i hlt ha
     have hn := qog hlt h0 ha
     have hT : typA (appR t (s.getD i R0).ty) = .tup [encY (appR t (s.getD i R0).ty).1, .int .i64 0] := by rw [typA, ha]
     repeat' (first | refine vs_ ?_ | ((first | refine vr_ ?_ | fail) <;> (try simp (disch := first | omega | (simp only [List.length_set, List.length_append, List.length_cons, List.length_nil]; done) | (simp only [List.length_set, List.length_append, List.length_cons, List.length_nil]; omega)) only [hp, qb, go_sem, ↓reduceIte])) | ((first | simp (disch := omega) only [hp] | simp (disch := omega) only [hT] | (refine cs_ ?_ ?_ <;> intro hc) | refine cj_ ?_ | simp (disch := omega) only [encs_getN, qb] | refine qca 1 (hA _ hm.1 hm.2) ?_ rfl rfl (by simp) rfl (qh4 0 _) | refine qca 2 (qd3 a1 (by omega) _ b1 b2) ?_) <;> (try refine ev_ ?_)) | with_reducible exact ti_)
     ·refine qj (i + 1) [0, 1, 2] ⟨⟨by omega, by rw [hn]⟩, by omega⟩ rfl (by simp) ?_ ?_ ?_ <;> simp only [hn] <;> (try refine ev_ ?_) <;> (try with_reducible exact ti_) <;> (try simp (disch := omega) only [qb, and_true, true_and])
      all_goals rw [q7 (by omega) (by omega), Int.natCast_add]; rfl
     ·exfalso; omega
    ·exact absurd (by rw [qjh hlt h0 ha] at he; exact he) ha
   ·have hie : i = s.length := by omega
    subst hie
    rw [List.take_length]
    have hok : okS (qbd t [] s).1 := qkt s qdo
    have hln := qh9 t s []
    simp only [List.length_nil, Nat.zero_add] at hln
    repeat' (first | refine vs_ ?_ | ((first | refine vr_ ?_ | refine qca 1 (qb1 (by omega) hmt) ?_ | (refine cs_ ?_ ?_ <;> intro hc) | refine cj_ ?_ | simp (disch := omega) only [encs_getN, qb]) <;> (try refine ev_ ?_)) | with_reducible exact ti_)
    ·exfalso; omega
    ·generalize (qbd t [] s).1 = a at hok hln ⊢
     refine qm (S := Nat) (fun i => i ≤ t.length) (fun i => (⟨[(6, .ptr 2 0), (38, .sl 4 (qk t)), (39, .int .i64 t.length), (40, .int .i64 i)], []⟩, [subE s, subE t, subE (addR a (t.take i))])) (fun i => t.length - i) ?_ fun i hi => ?_
     ·refine qj 0 [0, 1, 2] (Nat.zero_le _) rfl (by simp) ?_ ?_ ?_ <;> simp only [List.take_zero, addR] <;> (try refine ev_ ?_) <;> (try with_reducible exact ti_) <;> (try simp (disch := omega) only [qb, and_true, true_and])
     ·by_cases hlt : i < t.length
      ·have hp := qh hlt
       have hm := hmt _ (qbz hlt)
       have hq := qhy (t.take i) hok
       have hql := qfk (t.take i) a
       rw [List.length_take] at hql
       have hn := qg6 hlt a
       repeat' (first | refine vs_ ?_ | ((first | refine vr_ ?_ | fail) <;> (try simp (disch := first | omega | (simp only [List.length_set, List.length_append, List.length_cons, List.length_nil]; done) | (simp only [List.length_set, List.length_append, List.length_cons, List.length_nil]; omega)) only [hp, qb, go_sem, ↓reduceIte])) | ((first | simp (disch := omega) only [hp] | (refine cs_ ?_ ?_ <;> intro hc) | refine cj_ ?_ | simp (disch := omega) only [encs_getN, qb] | refine qca 2 (qd3 hq.1 (by omega) _ hm.1 hm.2) ?_) <;> (try refine ev_ ?_)) | with_reducible exact ti_)
       ·refine qj (i + 1) [0, 1, 2] ⟨by omega, by omega⟩ rfl (by simp) ?_ ?_ ?_ <;> simp only [hn] <;> (try refine ev_ ?_) <;> (try with_reducible exact ti_) <;> (try simp (disch := omega) only [qb, and_true, true_and])
        all_goals rw [q7 (by omega) (by omega), Int.natCast_add]; rfl
      ·have hie : i = t.length := by omega
       subst hie
       rw [List.take_length]
       repeat' (first | refine vs_ ?_ | ((first | refine vr_ ?_ | (refine cs_ ?_ ?_ <;> intro hc) | refine cj_ ?_ | simp (disch := omega) only [encs_getN, qb]) <;> (try refine ev_ ?_)) | with_reducible exact ti_)
       all_goals try (exfalso; omega)
       all_goals
        rw [newQ, if_pos rfl]
        exact ⟨rfl, rfl⟩
 ·rw [if_neg he]
  refine qn c0bf 2 (by simp) (by simp) ?_
  repeat' (first | refine vs_ ?_ | ((first | refine vr_ ?_ | refine qc8 qfe rfl rfl ?_ | refine qca 0 (qb1 (by omega) hms) ?_ | (refine cs_ ?_ ?_ <;> intro hc) | refine cj_ ?_ | simp (disch := omega) only [encs_getN, qb]) <;> (try refine ev_ ?_)) | with_reducible exact ti_)
  refine qm (S := Nat) (fun i => i ≤ s.length ∧ (qbd t [] (s.take i)).2 = 0) (fun i => (⟨[(1, .ptr 1 0), (6, .ptr 2 0), (15, .sl 4 (qk s)), (16, .int .i64 s.length), (17, .int .i64 i)], []⟩, [subE s, subE t, subE (qbd t [] (s.take i)).1])) (fun i => s.length - i) ?_ fun i hi => ?_
  ·refine qj 0 [0, 1, 2] ⟨Nat.zero_le _, rfl⟩ rfl (by simp) ?_ ?_ ?_ <;> simp only [List.take_zero, qbd] <;> (try refine ev_ ?_) <;> (try with_reducible exact ti_) <;> (try simp (disch := omega) only [qb, and_true, true_and])
  ·obtain ⟨hi, h0⟩ := hi
   have hlt : i < s.length := by
    by_cases hlt : i < s.length
    ·exact hlt
    ·rw [List.take_of_length_le (by omega)] at h0
     exact absurd h0 he
   have hp := qh hlt
   have hm := hms _ (qbz hlt)
   obtain ⟨a1, a2⟩ := hstep i hlt h0
   by_cases ha : (appR t (s.getD i R0).ty).2 = 0
   ·obtain ⟨b1, b2⟩ := hap i hlt ha
    have hn := qog hlt h0 ha
    have hT : typA (appR t (s.getD i R0).ty) = .tup [encY (appR t (s.getD i R0).ty).1, .int .i64 0] := by rw [typA, ha]
    repeat' (first | refine vs_ ?_ | ((first | refine vr_ ?_ | fail) <;> (try simp (disch := first | omega | (simp only [List.length_set, List.length_append, List.length_cons, List.length_nil]; done) | (simp only [List.length_set, List.length_append, List.length_cons, List.length_nil]; omega)) only [hp, qb, go_sem, ↓reduceIte])) | ((first | simp (disch := omega) only [hp] | simp (disch := omega) only [hT] | (refine cs_ ?_ ?_ <;> intro hc) | refine cj_ ?_ | simp (disch := omega) only [encs_getN, qb] | refine qca 1 (hA _ hm.1 hm.2) ?_ rfl rfl (by simp) rfl (qh4 0 _) | refine qca 2 (qd3 a1 (by omega) _ b1 b2) ?_) <;> (try refine ev_ ?_)) | with_reducible exact ti_)
    ·refine qj (i + 1) [0, 1, 2] ⟨⟨by omega, by rw [hn]⟩, by omega⟩ rfl (by simp) ?_ ?_ ?_ <;> simp only [hn] <;> (try refine ev_ ?_) <;> (try with_reducible exact ti_) <;> (try simp (disch := omega) only [qb, and_true, true_and])
     all_goals rw [q7 (by omega) (by omega), Int.natCast_add]; rfl
    ·exfalso; omega
   ·have hT : typA (appR t (s.getD i R0).ty) = .tup [encY (appR t (s.getD i R0).ty).1, .int .i64 (appR t (s.getD i R0).ty).2] := rfl
    have had : decide ((appR t (s.getD i R0).ty).2 = 0) = false := decide_eq_false ha
    rw [qjh hlt h0 ha]
    repeat' (first | refine vs_ ?_ | ((first | refine vr_ ?_ | fail) <;> (try simp (disch := first | omega | (simp only [List.length_set, List.length_append, List.length_cons, List.length_nil]; done) | (simp only [List.length_set, List.length_append, List.length_cons, List.length_nil]; omega)) only [hp, qb, had, go_sem, ↓reduceIte])) | ((first | simp (disch := omega) only [hp] | simp (disch := omega) only [hT] | (refine cs_ ?_ ?_ <;> intro hc) | refine cj_ ?_ | simp (disch := omega) only [encs_getN, qb] | refine qca 1 (hA _ hm.1 hm.2) ?_ rfl rfl (by simp) rfl (qh4 0 _)) <;> (try refine ev_ ?_)) | with_reducible exact ti_)
    all_goals try (exfalso; omega)
    all_goals
     rw [newQ, if_neg ha]
     exact ⟨rfl, rfl⟩
set_option maxRecDepth 4000

def fewR (l : List Pr) : Bool := decide (l.length ≤ 30) && qji (l.map Pr.ty)
theorem qik (l : List Pr) (i : Nat) (h : i < l.length) : (l.map Pr.ty).take (i + 1) = (l.map Pr.ty).take i ++ [(l.getD i R0).ty] := by
 rw [List.take_add_one, List.getElem?_map, List.getElem?_eq_getElem h, List.getD_eq_getElem?_getD, List.getElem?_eq_getElem h]; rfl
def ql5 (l : List Pr) (i : Nat) : AF × List Ent := (⟨[(0, .sl 4 (qk l)), (3, accV 0 (qs ((l.map Pr.ty).take i))), (4, .int .i64 i)], []⟩, accE 3 (qs ((l.map Pr.ty).take i)))
theorem qbcd (l : List Pr) : ql Try.prog 30 [.sl 4 (qk l)] (.int .i64 (if fewR l = true then 1 else 0)) := by
 refine qd c0bi (by simp) (by simp only [go_sem]) rfl fun hw => ?_
 have hl := (qd7 hw.1).1
 repeat' (first | refine vs_ ?_ | ((first | refine vr_ ?_ | (refine cs_ ?_ ?_ <;> intro hc) | refine cj_ ?_ | simp (disch := omega) only [encs_getN, qb]) <;> (try refine ev_ ?_)) | with_reducible exact ti_)
 ·rw [if_neg (by simp [fewR]; omega)]
 have h30 : l.length ≤ 30 := by omega
 refine qm (S := Nat) (fun i => i ≤ l.length) (ql5 l) (fun i => l.length - i) ?_ fun i hi => ?_
 ·refine qj 0 [] (Nat.zero_le _) rfl (by simp) ?_ ?_ ?_ <;> simp only [ql5, List.take_zero, qc4, qc9, qdg] <;> (try refine ev_ ?_) <;> (try with_reducible exact ti_) <;> (try simp (disch := omega) only [qb, and_true, true_and])
 ·have hfin : fewR l = qji (l.map Pr.ty) := by rw [fewR, decide_eq_true h30, Bool.true_and]
  have hlm : ((l.map Pr.ty).take i).length = i := by rw [List.length_take, List.length_map]; omega
  have hcap : qdl (i + 1) 48 = True := eq_true (capY (by omega))
  unfold ql5
  by_cases hlt : i < l.length
  ·have hs := qik l i hlt
   by_cases h0 : i = 0
   ·subst h0
    simp only [List.take_zero, qc4, qc9, qdg]
    repeat' (first | refine vs_ ?_ | ((first | refine vr_ ?_ | fail) <;> (try simp (disch := first | omega | (simp only [List.length_set, List.length_append, List.length_cons, List.length_nil]; done) | (simp only [List.length_set, List.length_append, List.length_cons, List.length_nil]; omega)) only [qh, qb, qcr, go_sem, ↓reduceIte])) | ((first | simp (disch := omega) only [qh] | simp (disch := omega) only [qcr] | simp (disch := omega) only [(show qdl 1 48 = True from eq_true (capY (by omega)))] | (refine cs_ ?_ ?_ <;> intro hc) | refine cj_ ?_ | simp (disch := omega) only [encs_getN, qb]) <;> (try refine ev_ ?_)) | with_reducible exact ti_)
    ·refine qj 1 [0] ⟨by omega, by omega⟩ rfl (by simp) ?_ ?_ ?_ <;> simp only [ql5, hs, List.take_zero, List.nil_append, ← qrh, qj1, qjy] <;> (try refine ev_ ?_) <;> (try with_reducible exact ti_) <;> (try simp (disch := omega) only [qb, and_true, true_and])
     all_goals (rw [qf5])
    ·omega
   ·have hne : (l.map Pr.ty).take i ≠ [] := fun h => h0 (by rw [← hlm, h]; rfl)
    simp only [qh5 (qgo hne), qhd (qgo hne), qz, hlm]
    repeat' (first | refine vs_ ?_ | ((first | refine vr_ ?_ | fail) <;> (try simp (disch := first | omega | (simp only [List.length_set, List.length_append, List.length_cons, List.length_nil]; done) | (simp only [List.length_set, List.length_append, List.length_cons, List.length_nil]; omega)) only [qh, qb, qcr, qz, hlm, go_sem, ↓reduceIte])) | ((first | simp (disch := omega) only [qh] | simp (disch := omega) only [qcr] | simp (disch := omega) only [hcap] | (refine cs_ ?_ ?_ <;> intro hc) | refine cj_ ?_ | simp (disch := omega) only [encs_getN, qb]) <;> (try refine ev_ ?_)) | with_reducible exact ti_)
    ·have hl2 : qs ((l.map Pr.ty).take (i + 1)) = qs ((l.map Pr.ty).take i) ++ [encY (l.getD i R0).ty] := by rw [hs, qe5]
     refine qj (i + 1) [1] ⟨by omega, by omega⟩ rfl (by simp) ?_ ?_ ?_ <;> simp only [ql5, hl2, qhc, qgx, qz, hlm] <;> (try refine ev_ ?_) <;> (try with_reducible exact ti_) <;> (try simp (disch := omega) only [qb, and_true, true_and])
     all_goals (simp only [qe5]; exact ⟨qch _ _, by rw [qh3]⟩)
    ·omega
  ·have hend : (l.map Pr.ty).take i = l.map Pr.ty := List.take_of_length_le (by rw [List.length_map]; omega)
   have hf := qbii (l.map Pr.ty)
   rw [hend, hfin]
   by_cases h0 : l.map Pr.ty = []
   ·rw [h0] at hf ⊢
    simp only [qc4, qc9, qdg]
    repeat' (first | refine vs_ ?_ | ((first | refine vr_ ?_ | fail) <;> (try simp only [qbe, go_sem, ↓reduceIte])) | ((first | (refine cs_ ?_ ?_ <;> intro hc) | refine cj_ ?_ | simp (disch := omega) only [encs_getN, qb] | refine qa hf fun _ => ?_) <;> (try refine ev_ ?_)) | with_reducible exact ti_)
    all_goals omega
   ·simp only [qh5 (qgo h0), qhd (qgo h0), qz]
    repeat' (first | refine vs_ ?_ | ((first | refine vr_ ?_ | fail) <;> (try simp only [qz, go_sem, ↓reduceIte])) | ((first | (refine cs_ ?_ ?_ <;> intro hc) | refine cj_ ?_ | simp (disch := omega) only [encs_getN, qb] | refine qa hf fun _ => ?_) <;> (try refine ev_ ?_)) | with_reducible exact ti_)
    all_goals omega
set_option maxRecDepth 4000

theorem qpt {l : List Pr} (hl : l.length ≤ maxLen) (h : fewR l = true) : l.length ≤ 30 ∧ smlR l := by
 rw [fewR, Bool.and_eq_true, decide_eq_true_eq] at h
 refine ⟨h.1, fun p hp => ?_⟩
 have := q46 (l := l.map Pr.ty) (by rw [List.length_map]; exact hl) h.2
 have hm : p.ty ∈ l.map Pr.ty := List.mem_map_of_mem hp
 have h1 := qf1 hm
 have h2 := qsy hm
 omega
section
variable {L : List Ent} {Q : List Ent → VO → Prop} {s t : List Pr}
theorem qba6 {l : List Pr} (hs : smlR l) (hl : l.length ≤ 100000) (hq : Q (L ++ [subE (newR l)]) (.val (.ptr L.length 0))) : VApp Try.prog L (.fn 33 [] []) [.sl 4 (qk l)] Q :=
 qc8 (qlu hs hl) rfl (by simp only [AV.bds, AV.bd, qbh, Bool.and_true]) hq
theorem qqf (a : Nat) (hs : okS s) (hl : s.length ≤ 40000) (vars : List Int) (hq : Q (L ++ [subE (qdj vars s)]) (.val (.ptr L.length 0))) (h0 : ent L a = subE s := by rfl) (ha : a < L.length := by simp) : VApp Try.prog L (.fn 42 [] []) [.ptr a 0, .sl 1 (ints vars)] Q := by
 refine qcn ?_
 rw [List.nil_append, List.append_nil]
 refine qbu [a] (qqx hs hl vars) (by simp) ⟨⟨ha, rfl, by rw [h0]; rfl⟩, trivial⟩ (by simp only [AV.bds, AV.bd, qkw, Bool.and_true]; rfl) (by simp only [AV.rens, AV.ren, qoo]; rfl) fun H1 o ho => ?_
 obtain ⟨rfl, rfl⟩ := ho
 have e1 : qfs L [a] [subE s, subE (qdj vars s)] = L ++ [subE (qdj vars s)] := by
  show (L.set a (subE s)) ++ [subE (qdj vars s)] = _
  rw [qcz h0 ha]
 rw [e1]
 simp only [VO.ren, AV.ren]
 show Q _ (.val (.ptr (L.length + (1 - 1)) 0))
 exact hq
theorem qyq (a b : Nat) (hs : okS s) (ht : okS t) (h1 : s.length ≤ 40000) (h2 : t.length ≤ 40000) (hab : a ≠ b) (hq : if (behR s t).2 = 0 then Q (L ++ [subE (behR s t).1]) (.val (.tup [.ptr L.length 0, .int .i64 0])) else Q L (.val (.tup [.nilp, .int .i64 (behR s t).2])))
 (h0 : ent L a = subE s := by rfl) (h0' : ent L b = subE t := by rfl) (ha : a < L.length := by simp) (hb : b < L.length := by simp) : VApp Try.prog L (.fn 46 [] []) [.ptr a 0, .ptr b 0] Q := by
 refine qcn ?_
 rw [List.nil_append, List.append_nil]
 refine qbu [a, b] (qya hs ht h1 h2) (by simp [hab]) ⟨⟨ha, rfl, by rw [h0]; rfl⟩, ⟨hb, rfl, by rw [h0']; rfl⟩, trivial⟩ rfl (by rfl) fun H1 o ho => ?_
 have e0 : (L.set a (subE s)).set b (subE t) = L := by
  rw [qcz h0 ha, qcz h0' hb]
 rw [newQ] at ho
 split at ho
 ·rename_i he
  rw [if_pos he] at hq
  obtain ⟨rfl, rfl⟩ := ho
  have e1 : qfs L [a, b] ([subE s, subE t] ++ [subE (behR s t).1]) = L ++ [subE (behR s t).1] := by
   show ((L.set a (subE s)).set b (subE t)) ++ [subE (behR s t).1] = _
   rw [e0]
  rw [e1]
  show Q _ (.val (.tup [.ptr (L.length + (2 - 2)) 0, .int .i64 0]))
  exact hq
 ·rename_i he
  rw [if_neg he] at hq
  obtain ⟨rfl, rfl⟩ := ho
  have e1 : qfs L [a, b] [subE s, subE t] = L := by
   show ((L.set a (subE s)).set b (subE t)) ++ [] = _
   rw [e0, List.append_nil]
  rw [e1]
  exact hq
theorem qcx {f : FuncId} {e e' : Ent} {rest : List AV} {r : AV} (i : Nat) (h : VM Try.prog f e e' (.ptr 0 0 :: rest) r) (hrest : AV.bds 0 rest = true) (hr : r.bd 0 = true) (hq : Q (L.set i e') (.val r)) (hb : e.bd 0 = true := by rfl) (hb' : e'.bd 0 = true := by rfl) (hi : i < L.length := by simp) (he : ent L i = e := by rfl) :
 VApp Try.prog L (.fn f [] []) (.ptr i 0 :: rest) Q := by
 refine qca i h hq hb hb' hi he hr ?_ ?_
 ·rw [List.append_nil, AV.rens, qp (m := 0) (fun j hj => by omega) rest hrest]; rfl
 ·rw [AV.bds, Bool.and_eq_true]
  exact ⟨rfl, qb7 (Nat.zero_le _) _ hrest⟩
theorem qor {l : List Pr} (hs : smlR l) (hl : l.length ≤ 100000) (e : newR l = s) (hq : Q (L ++ [subE s]) (.val (.ptr L.length 0))) : VApp Try.prog L (.fn 33 [] []) [.sl 4 (qk l)] Q := by
 subst e; exact qba6 hs hl hq
theorem qsr (a : Nat) (hs : okS s) (hl : s.length ≤ 40000) (vars : List Int) (e : qdj vars s = t) (hq : Q (L ++ [subE t]) (.val (.ptr L.length 0))) (h0 : ent L a = subE s := by rfl) (ha : a < L.length := by simp) : VApp Try.prog L (.fn 42 [] []) [.ptr a 0, .sl 1 (ints vars)] Q := by
 subst e; exact qqf a hs hl vars hq h0 ha
theorem q2z (a b : Nat) {r : List Pr} (hs : okS s) (ht : okS t) (h1 : s.length ≤ 40000) (h2 : t.length ≤ 40000) (hab : a ≠ b) (he : behR s t = (r, 0)) (hq : Q (L ++ [subE r]) (.val (.tup [.ptr L.length 0, .int .i64 0])))
 (h0 : ent L a = subE s := by rfl) (h0' : ent L b = subE t := by rfl) (ha : a < L.length := by simp) (hb : b < L.length := by simp) : VApp Try.prog L (.fn 46 [] []) [.ptr a 0, .ptr b 0] Q := by
 refine qyq a b hs ht h1 h2 hab ?_ h0 h0' ha hb
 rw [he, if_pos rfl]
 exact hq
theorem qvi (hs : okS s) (hl : s.length ≤ 100000) {ty : Ty} (q1 : szY ty ≤ 20000) (q2 : dpY ty ≤ 300) : VM Try.prog 35 (subE s) (subE s) [.ptr 0 0, encY ty] (typA (appR s ty)) :=
 qh6 (b := true) (R := bunR (subH s)) (fun v => qm1 hs.1 hl v) hs q1 q2
end
def wT : Ty := ⟨[84], 0, []⟩
def wU : Ty := ⟨[85], 0, []⟩
def wV : Ty := ⟨[86], 0, []⟩
def wB : Ty := ⟨[], 1, []⟩
def wF : Ty := ⟨[45, 62], 0, [Y0, wB]⟩
def wR : Ty := ⟨[45, 62], 0, [wT, wB]⟩
def S1 : List Pr := [⟨0, wT⟩]
def S2 : List Pr := [⟨0, wT⟩, ⟨1, Y0⟩]
def S3 : List Pr := [⟨0, wV⟩]
def S4 : List Pr := [⟨0, wT⟩, ⟨1, wV⟩]
theorem w1 : newR [⟨0, wT⟩, ⟨0, wU⟩] = S1 := by rfl
theorem w3 : newR [⟨0, wV⟩] = S3 := by rfl
theorem S1_ok : okS S1 := w1 ▸ qka _
theorem q1x : okS S3 := w3 ▸ qka _
theorem w2 : setR S1 1 Y0 = (S2, 0) := by rfl
theorem qvd : okS S2 := by have := qnm S1_ok 1 Y0; rwa [w2] at this
theorem w4 : behR S2 S3 = (S4, 0) := by rfl
theorem S4_ok : okS S4 := by have := q0o qvd q1x; rwa [w4] at this
theorem k0 : VM Try.prog 35 (subE S1) (subE S1) [.ptr 0 0, encY wF] (.tup [encY wR, .int .i64 0]) := qvi S1_ok (by decide) (ty := wF) (by decide) (by decide)
theorem k1 : VM Try.prog 45 (subE S1) (subE S1) [.ptr 0 0, .int .i64 0, encY wT] (.int .i64 6) := qd3 S1_ok.1 (by decide) 0 (t := wT) (by decide) (by decide)
theorem k2 : VM Try.prog 45 (subE S1) (subE S2) [.ptr 0 0, .int .i64 1, encY Y0] (.int .i64 0) := qd3 S1_ok.1 (by decide) 1 (t := Y0) (by decide) (by decide)
theorem k4 : VM Try.prog 37 (subE S4) (subE S4) [.ptr 0 0, .int .i64 1] (.tup [encY wV, .bool true]) := qm1 S4_ok.1 (by decide) 1
theorem k5 : VM Try.prog 41 (subE S2) (subE S2) [.ptr 0 0] (.sl 4 (qk S2)) := qb1 (by decide) (qdf qvd)
theorem w6 : qdj [1] S2 = [⟨1, Y0⟩] := by rfl
theorem k6 : VM Try.prog 41 (subE [⟨1, Y0⟩]) (subE [⟨1, Y0⟩]) [.ptr 0 0] (.sl 4 (qk [⟨1, Y0⟩])) := qb1 (by decide) (qdf (by have := qx1 qvd [1]; rwa [w6] at this))
theorem k7 : ql Try.prog 75 [encY wR] (.str [84, 32, 45, 62, 32, 98]) := qp5 (t := wR) (by decide) (by decide) (by decide)
theorem qj3 : ql Try.prog 32 [] (.bool true) := by
 refine qd c0bh (by simp) rfl rfl fun hw => ?_
 have hv : wV.con = [86] := rfl
 have hl2 : (S2.length : Int) = 2 := rfl
 have hl1 : (([⟨1, Y0⟩] : List Pr).length : Int) = 1 := rfl
 repeat' (first | refine vs_ ?_ | ((first | refine vr_ ?_ | fail) <;> (try simp only [hv, hl2, hl1, go_sem, ↓reduceIte])) | ((first | (refine cs_ ?_ ?_ <;> intro hc) | refine cj_ ?_ | fail | refine qor (l := [⟨0, wT⟩, ⟨0, wU⟩]) (fun p hp => by simp at hp; rcases hp with rfl | rfl <;> simp [wT, wU, szY, szYs, dpY, dpYs]) (by simp) w1 ?_ | refine qor (l := [⟨0, wV⟩]) (qdf q1x) (by simp) w3 ?_ | refine qcx 1 k0 rfl rfl ?_ | refine qcx 1 k1 rfl rfl ?_ | refine qcx 1 k2 rfl rfl ?_ | refine q2z 1 3 qvd q1x (by decide) (by decide) (by decide) w4 ?_ | refine qcx 4 k4 rfl rfl ?_) <;> (try refine ev_ ?_)) | with_reducible exact ti_)
 repeat' (first | refine vs_ ?_ | ((first | refine vr_ ?_ | fail) <;> (try simp only [hv, hl2, hl1, go_sem, ↓reduceIte])) | ((first | (refine cs_ ?_ ?_ <;> intro hc) | refine cj_ ?_ | fail | refine qa k7 fun _ => ?_) <;> (try refine ev_ ?_)) | with_reducible exact ti_)
 repeat' (first | refine vs_ ?_ | ((first | refine vr_ ?_ | fail) <;> (try simp only [hl2, hl1, go_sem, ↓reduceIte])) | ((first | (refine cs_ ?_ ?_ <;> intro hc) | refine cj_ ?_ | fail | refine qcx 1 k5 rfl (by rfl) ?_) <;> (try refine ev_ ?_)) | with_reducible exact ti_)
 ·repeat' (first | refine vs_ ?_ | ((first | refine vr_ ?_ | refine qsr 1 qvd (by decide) [1] w6 ?_ | (refine cs_ ?_ ?_ <;> intro hc) | refine cj_ ?_ | fail) <;> (try refine ev_ ?_)) | with_reducible exact ti_)
  repeat' (first | refine vs_ ?_ | ((first | refine vr_ ?_ | refine qcx 6 k6 rfl (by rfl) ?_ | (refine cs_ ?_ ?_ <;> intro hc) | refine cj_ ?_ | fail) <;> (try refine ev_ ?_)) | with_reducible exact ti_)
 ·exact absurd hl2 hc
set_option maxRecDepth 4000

mutual
theorem qi5 : ∀ t, qek t t = true
 | .mk c v l => by rw [qek, qhs l]; simp
theorem qhs : ∀ l, qx l l = true
 | [] => by rw [qx]
 | x :: r => by rw [qx, qi5 x, qhs r]; rfl
end
theorem qmn (t : Ty) : ql Try.prog 39 [encY t, encY t] (.bool true) := qeb (qf9 t t) (by rw [qi5])
theorem qdu {l : List Pr} (h : fewR l = true) : ql Try.prog 30 [.sl 4 (qk l)] (.int .i64 1) := qeb (qbcd l) (by rw [h]; rfl)
theorem qpe {l : List Pr} (h : fewR l = false) : ql Try.prog 30 [.sl 4 (qk l)] (.int .i64 0) := qeb (qbcd l) (by rw [h]; rfl)
set_option maxRecDepth 4000

theorem qea : ql Try.prog 41 [.nilp] (.sl 4 (qk [])) := by
 refine qd c0bg (by simp) rfl rfl fun hw => ?_
 repeat' (first | refine vs_ ?_ | ((first | refine vr_ ?_ | (refine cs_ ?_ ?_ <;> intro hc) | refine cj_ ?_ | simp (disch := omega) only [encs_getN, qb]) <;> (try refine ev_ ?_)) | with_reducible exact ti_)
 rfl
theorem qxj {p : Pr} (h : fewR [p] = true) : szY p.ty ≤ 20000 ∧ dpY p.ty ≤ 300 := (qpt (by unfold maxLen; simp) h).2 p (by simp)
theorem qrq (l : List Pr) : ql Try.prog 40 [.sl 4 (qk l), .sl 4 (qk l)] (.bool true) := qeb (qra l l) (by rw [(qh1 l l).2 rfl])
theorem qrz {l : List Pr} (h : smlR l) : qz1 l := h
set_option maxRecDepth 4000

mutual
theorem qo3 : ∀ t, putY [] t = t
 | .mk c v l => by
   rw [putY]
   split
   ·rfl
   ·rw [qmd l]
theorem qmd : ∀ l, qbg [] l = l
 | [] => by rw [qbg]
 | x :: r => by rw [qbg, qo3 x, qmd r]
end
theorem qos : ∀ (s acc : List Pr), risR s → (∀ p ∈ s, qr p.ty = true) → (∀ p ∈ acc, ∀ q ∈ s, p.v < q.v) → addR acc s = acc ++ s
 | [], acc, _, _, _ => by simp [addR]
 | p :: r, acc, hs, hl, hlt => by
   rw [addR, qkf (hl p (by simp)) fun q hq => hlt q hq p (by simp)]
   simp only
   rw [qos r _ hs.2 (fun q hq => hl q (by simp [hq])) fun a ha q hq => ?_]
   ·simp
   ·rcases List.mem_append.1 ha with ha | ha
    ·exact hlt a ha q (by simp [hq])
    ·simp at ha
     subst ha
     exact hs.1 q hq
theorem qsv {s : List Pr} (h : okS s) : addR [] s = s := by rw [qos s [] h.1 h.2 (fun p hp => by simp at hp)]; rfl
theorem qjw (v : Int) : ql Try.prog 37 [.nilp, .int .i64 v] (.tup [encY Y0, .bool false]) := by
 refine qd c0bc (by simp) rfl (by simp [AV.bd, AV.bds, qbq]) fun hw => ?_
 repeat' (first | refine vs_ ?_ | ((first | refine vr_ ?_ | (refine cs_ ?_ ?_ <;> intro hc) | refine cj_ ?_ | simp (disch := omega) only [encs_getN, qb]) <;> (try refine ev_ ?_)) | with_reducible exact ti_)
 all_goals rfl
theorem qoz (v : Int) (t : Ty) : ql Try.prog 45 [.nilp, .int .i64 v, encY t] (.int .i64 1) := by
 refine qd c0bd (by simp) (by simp only [AV.bds, AV.bd, qbq, Bool.and_true]) rfl fun hw => ?_
 repeat' (first | refine vs_ ?_ | ((first | refine vr_ ?_ | (refine cs_ ?_ ?_ <;> intro hc) | refine cj_ ?_ | fail) <;> (try refine ev_ ?_)) | with_reducible exact ti_)
theorem qrf {t : Ty} (h1 : szY t ≤ 20000) (h2 : dpY t ≤ 300) : ql Try.prog 35 [.nilp, encY t] (.tup [encY (appR [] t).1, .int .i64 (appR [] t).2]) :=
 qq1 (qh6 (R := fun _ _ _ => True) (b := false) (s := []) (fun v => q9d (qjw v) qxb rfl) qdo h1 h2) (by simp only [AV.bds, AV.bd, qbq, Bool.and_true]) (qh4 0 _)
theorem qm8 (vars : List Int) : VCalls Try.prog 42 [] [.nilp, .sl 1 (ints vars)] fun H' o => H' = [subE []] ∧ o = .val (.ptr 0 0) := by
 refine qn c0be 1 (by simp) (by simp) ?_
 repeat' (first | refine vs_ ?_ | ((first | refine vr_ ?_ | refine qc8 qfe rfl rfl ?_ | refine qa qea fun _ => ?_ | (refine cs_ ?_ ?_ <;> intro hc) | refine cj_ ?_ | simp (disch := omega) only [encs_getN, qb]) <;> (try refine ev_ ?_)) | with_reducible exact ti_)
 refine qm (S := Unit) (fun _ => True) (fun _ => (⟨[(5, .ptr 0 0), (11, .int .i64 (0 : Nat)), (12, .int .i64 (0 : Nat))], []⟩, [subE []])) (fun _ => 0) ?_ fun x hx => ?_
 ·refine qj () [0] trivial rfl (by simp) ?_ ?_ ?_ <;> (try refine ev_ ?_) <;> (try with_reducible exact ti_) <;> (try simp (disch := omega) only [qb, and_true, true_and])
 ·repeat' (first | refine vs_ ?_ | ((first | refine vr_ ?_ | (refine cs_ ?_ ?_ <;> intro hc) | refine cj_ ?_ | simp (disch := omega) only [encs_getN, qb]) <;> (try refine ev_ ?_)) | with_reducible exact ti_)
  all_goals exact absurd hc (by omega)
theorem qu8 {t : List Pr} (ht : okS t) (h2 : t.length ≤ 40000) : VCalls Try.prog 46 [subE t] [.nilp, .ptr 0 0] fun H' o => H' = [subE t, subE t] ∧ o = .val (.tup [.ptr 1 0, .int .i64 0]) := by
 have hmt := qdf ht
 refine qn c0bf 2 (by simp) (by simp) ?_
 repeat' (first | refine vs_ ?_ | ((first | refine vr_ ?_ | refine qc8 qfe rfl rfl ?_ | refine qa qea fun _ => ?_ | (refine cs_ ?_ ?_ <;> intro hc) | refine cj_ ?_ | simp (disch := omega) only [encs_getN, qb]) <;> (try refine ev_ ?_)) | with_reducible exact ti_)
 refine qm (S := Unit) (fun _ => True) (fun _ => (⟨[(1, .ptr 0 0), (6, .ptr 1 0), (16, .int .i64 (0 : Nat)), (17, .int .i64 (0 : Nat))], []⟩, [subE t, subE []])) (fun _ => 0) ?_ fun x hx => ?_
 ·refine qj () [0, 1] trivial rfl (by simp) ?_ ?_ ?_ <;> (try refine ev_ ?_) <;> (try with_reducible exact ti_) <;> (try simp (disch := omega) only [qb, and_true, true_and])
 ·repeat' (first | refine vs_ ?_ | ((first | refine vr_ ?_ | refine qca 0 (qb1 (by omega) hmt) ?_ | (refine cs_ ?_ ?_ <;> intro hc) | refine cj_ ?_ | simp (disch := omega) only [encs_getN, qb]) <;> (try refine ev_ ?_)) | with_reducible exact ti_)
  ·exact absurd hc (by omega)
  ·refine qm (S := Nat) (fun i => i ≤ t.length) (fun i => (⟨[(6, .ptr 1 0), (38, .sl 4 (qk t)), (39, .int .i64 t.length), (40, .int .i64 i)], []⟩, [subE t, subE (addR [] (t.take i))])) (fun i => t.length - i) ?_ fun i hi => ?_
   ·refine qj 0 [0, 1] (Nat.zero_le _) rfl (by simp) ?_ ?_ ?_ <;> simp only [List.take_zero, addR] <;> (try refine ev_ ?_) <;> (try with_reducible exact ti_) <;> (try simp (disch := omega) only [qb, and_true, true_and])
   ·by_cases hlt : i < t.length
    ·have hp := qh hlt
     have hm := hmt _ (qbz hlt)
     have hq := qhy (t.take i) qdo
     have hql := qfk (t.take i) []
     rw [List.length_take] at hql
     simp only [List.length_nil, Nat.zero_add] at hql
     have hn := qg6 hlt []
     repeat' (first | refine vs_ ?_ | ((first | refine vr_ ?_ | fail) <;> (try simp (disch := first | omega | (simp only [List.length_set, List.length_append, List.length_cons, List.length_nil]; done) | (simp only [List.length_set, List.length_append, List.length_cons, List.length_nil]; omega)) only [hp, qb, go_sem, ↓reduceIte])) | ((first | simp (disch := omega) only [hp] | (refine cs_ ?_ ?_ <;> intro hc) | refine cj_ ?_ | simp (disch := omega) only [encs_getN, qb] | refine qca 1 (qd3 hq.1 (by omega) _ hm.1 hm.2) ?_) <;> (try refine ev_ ?_)) | with_reducible exact ti_)
     ·refine qj (i + 1) [0, 1] ⟨by omega, by omega⟩ rfl (by simp) ?_ ?_ ?_ <;> simp only [hn] <;> (try refine ev_ ?_) <;> (try with_reducible exact ti_) <;> (try simp (disch := omega) only [qb, and_true, true_and])
      all_goals rw [q7 (by omega) (by omega), Int.natCast_add]; rfl
     all_goals (exfalso; omega)
    ·have hie : i = t.length := by omega
     subst hie
     rw [List.take_length, qsv ht]
     repeat' (first | refine vs_ ?_ | ((first | refine vr_ ?_ | (refine cs_ ?_ ?_ <;> intro hc) | refine cj_ ?_ | simp (disch := omega) only [encs_getN, qb]) <;> (try refine ev_ ?_)) | with_reducible exact ti_)
     all_goals (exfalso; omega)
section
variable {L : List Ent} {Q : List Ent → VO → Prop} {t : List Pr}
theorem qhu (vars : List Int) (hq : Q (L ++ [subE []]) (.val (.ptr L.length 0))) : VApp Try.prog L (.fn 42 [] []) [.nilp, .sl 1 (ints vars)] Q :=
 qc8 (qm8 vars) rfl (by simp only [AV.bds, AV.bd, qkw, Bool.and_true]) hq
theorem qlz (a : Nat) (ht : okS t) (h2 : t.length ≤ 40000) (hq : Q (L ++ [subE t]) (.val (.tup [.ptr L.length 0, .int .i64 0]))) (h0 : ent L a = subE t := by rfl) (ha : a < L.length := by simp) : VApp Try.prog L (.fn 46 [] []) [.nilp, .ptr a 0] Q := by
 refine qcn ?_
 rw [List.nil_append, List.append_nil]
 refine qbu [a] (qu8 ht h2) (by simp) ⟨⟨ha, rfl, by rw [h0]; rfl⟩, trivial⟩ rfl (by rfl) fun H1 o ho => ?_
 obtain ⟨rfl, rfl⟩ := ho
 have e1 : qfs L [a] [subE t, subE t] = L ++ [subE t] := by
  show (L.set a (subE t)) ++ [subE t] = _
  rw [qcz h0 ha]
 rw [e1]
 show Q _ (.val (.tup [.ptr (L.length + (1 - 1)) 0, .int .i64 0]))
 exact hq
end
set_option maxRecDepth 4000

set_option maxHeartbeats 2000000 in
theorem qxe (p : Pr) (b : List Pr) : ql Try.prog 9 [encR p, .sl 4 (qk b)] (.bool true) := by
 refine qd c0bb (by simp) (by simp only [AV.bds, AV.bd, qbh, qeq, Bool.and_true]) rfl fun hw => ?_
 have hlb := (qd7 hw.2.1).1
 by_cases hfb : fewR b = true
 case neg =>
  have hfb : fewR b = false := by simpa using hfb
  repeat' (first | refine vs_ ?_ | ((first | refine vr_ ?_ | refine qa (qpe hfb) fun _ => ?_ | refine qa qj3 fun _ => ?_ | (refine cs_ ?_ ?_ <;> intro hc) | refine cj_ ?_ | fail) <;> (try refine ev_ ?_)) | with_reducible exact ti_)
 by_cases hfp : fewR [p] = true
 case neg =>
  have hfp : fewR [p] = false := by simpa using hfp
  repeat' (first | refine vs_ ?_ | ((first | refine vr_ ?_ | refine qa (qdu hfb) fun _ => ?_ | refine qa (qpe hfp) fun _ => ?_ | refine qa qj3 fun _ => ?_ | (refine cs_ ?_ ?_ <;> intro hc) | refine cj_ ?_ | fail) <;> (try refine ev_ ?_)) | with_reducible exact ti_)
 obtain ⟨hb1', hb2'⟩ := qpt hlb hfb
 obtain ⟨hp1, hp2⟩ := qxj hfp
 have hT := qka b
 have hTl := qpp b
 have hR2 := quz (l := b) (by omega) (qrz hb2')
 obtain ⟨T, hnT⟩ : ∃ T, newR b = T := ⟨_, rfl⟩
 rw [hnT] at hT hTl hR2
 have hPT := qb1 (s := T) (by omega) (qdf hT)
 have hrT := qrq T
 have hb1 : AV.bd 0 (.sl 4 (qk T)) = true := by simp only [AV.bd, qbh]
 have hP0 := qb1 (s := []) (by simp) (fun p hp => by simp at hp)
 have h10 : decide ((1 : Int) = 0) = false := rfl
 have hLg := qb9 hp1 hp2
 have hAp := qrf hp1 hp2
 rw [qnu qdo, qo3] at hAp
 by_cases hlg : qr p.ty = true
 ·rw [hlg] at hLg
  simp only [if_pos hlg] at hAp
  repeat' (first | refine vs_ ?_ | ((first | refine vr_ ?_ | fail) <;> (try simp only [h10, go_sem, ↓reduceIte])) | ((first | (refine cs_ ?_ ?_ <;> intro hc) | refine cj_ ?_ | fail | refine qa (qdu hfb) fun _ => ?_ | refine qa (qdu hfp) fun _ => ?_) <;> (try refine ev_ ?_)) | with_reducible exact ti_)
  all_goals try (exfalso; omega)
  repeat' (first | refine vs_ ?_ | ((first | refine vr_ ?_ | fail) <;> (try simp only [h10, go_sem, ↓reduceIte])) | ((first | (refine cs_ ?_ ?_ <;> intro hc) | refine cj_ ?_ | fail | refine qa hAp fun _ => ?_ | refine qa (qjw _) fun _ => ?_) <;> (try refine ev_ ?_)) | with_reducible exact ti_)
  repeat' (first | refine vs_ ?_ | ((first | refine vr_ ?_ | fail) <;> (try simp only [h10, go_sem, ↓reduceIte])) | ((first | (refine cs_ ?_ ?_ <;> intro hc) | refine cj_ ?_ | fail | refine qor hb2' (by omega) hnT ?_ | refine qlz 3 hT (by omega) ?_) <;> (try refine ev_ ?_)) | with_reducible exact ti_)
  repeat' (first | refine vs_ ?_ | ((first | refine vr_ ?_ | fail) <;> (try simp only [h10, go_sem, ↓reduceIte])) | ((first | (refine cs_ ?_ ?_ <;> intro hc) | refine cj_ ?_ | fail | refine qa (qmn _) fun _ => ?_ | refine qa hLg fun _ => ?_ | refine qa (qoz _ _) fun _ => ?_) <;> (try refine ev_ ?_)) | with_reducible exact ti_)
  all_goals try (exfalso; omega)
  repeat' (first | refine vs_ ?_ | ((first | refine vr_ ?_ | fail) <;> (try simp only [h10, go_sem, ↓reduceIte])) | ((first | (refine cs_ ?_ ?_ <;> intro hc) | refine cj_ ?_ | fail | refine qcx 4 hPT rfl hb1 ?_ | refine qa hR2 fun _ => ?_ | refine qa hrT fun _ => ?_ | refine qa qea fun _ => ?_) <;> (try refine ev_ ?_)) | with_reducible exact ti_)
  all_goals try (exfalso; omega)
  repeat' (first | refine vs_ ?_ | ((first | refine vr_ ?_ | fail) <;> (try simp only [h10, go_sem, ↓reduceIte])) | ((first | (refine cs_ ?_ ?_ <;> intro hc) | refine cj_ ?_ | fail | refine qhu [p.v] ?_) <;> (try refine ev_ ?_)) | with_reducible exact ti_)
  repeat' (first | refine vs_ ?_ | ((first | refine vr_ ?_ | fail) <;> (try simp only [h10, go_sem, ↓reduceIte])) | ((first | (refine cs_ ?_ ?_ <;> intro hc) | refine cj_ ?_ | fail | refine qcx 5 hP0 rfl rfl ?_ | refine qa qj3 fun _ => ?_) <;> (try refine ev_ ?_)) | with_reducible exact ti_)
  all_goals (exfalso; revert hc; simp)
 ·have hlg : qr p.ty = false := by simpa using hlg
  rw [hlg] at hLg
  simp only [hlg, Bool.false_eq_true, if_false] at hAp
  repeat' (first | refine vs_ ?_ | ((first | refine vr_ ?_ | fail) <;> (try simp only [h10, go_sem, ↓reduceIte])) | ((first | (refine cs_ ?_ ?_ <;> intro hc) | refine cj_ ?_ | fail | refine qa (qdu hfb) fun _ => ?_ | refine qa (qdu hfp) fun _ => ?_) <;> (try refine ev_ ?_)) | with_reducible exact ti_)
  all_goals try (exfalso; omega)
  repeat' (first | refine vs_ ?_ | ((first | refine vr_ ?_ | fail) <;> (try simp only [h10, go_sem, ↓reduceIte])) | ((first | (refine cs_ ?_ ?_ <;> intro hc) | refine cj_ ?_ | fail | refine qa hAp fun _ => ?_ | refine qa (qjw _) fun _ => ?_) <;> (try refine ev_ ?_)) | with_reducible exact ti_)
  repeat' (first | refine vs_ ?_ | ((first | refine vr_ ?_ | fail) <;> (try simp only [h10, go_sem, ↓reduceIte])) | ((first | (refine cs_ ?_ ?_ <;> intro hc) | refine cj_ ?_ | fail | refine qor hb2' (by omega) hnT ?_ | refine qlz 3 hT (by omega) ?_) <;> (try refine ev_ ?_)) | with_reducible exact ti_)
  repeat' (first | refine vs_ ?_ | ((first | refine vr_ ?_ | fail) <;> (try simp only [h10, go_sem, ↓reduceIte])) | ((first | (refine cs_ ?_ ?_ <;> intro hc) | refine cj_ ?_ | fail | refine qa (qmn _) fun _ => ?_ | refine qa hLg fun _ => ?_ | refine qa (qoz _ _) fun _ => ?_) <;> (try refine ev_ ?_)) | with_reducible exact ti_)
  all_goals try (exfalso; omega)
  repeat' (first | refine vs_ ?_ | ((first | refine vr_ ?_ | fail) <;> (try simp only [h10, go_sem, ↓reduceIte])) | ((first | (refine cs_ ?_ ?_ <;> intro hc) | refine cj_ ?_ | fail | refine qcx 4 hPT rfl hb1 ?_ | refine qa hR2 fun _ => ?_ | refine qa hrT fun _ => ?_ | refine qa qea fun _ => ?_) <;> (try refine ev_ ?_)) | with_reducible exact ti_)
  all_goals try (exfalso; omega)
  repeat' (first | refine vs_ ?_ | ((first | refine vr_ ?_ | fail) <;> (try simp only [h10, go_sem, ↓reduceIte])) | ((first | (refine cs_ ?_ ?_ <;> intro hc) | refine cj_ ?_ | fail | refine qhu [p.v] ?_) <;> (try refine ev_ ?_)) | with_reducible exact ti_)
  repeat' (first | refine vs_ ?_ | ((first | refine vr_ ?_ | fail) <;> (try simp only [h10, go_sem, ↓reduceIte])) | ((first | (refine cs_ ?_ ?_ <;> intro hc) | refine cj_ ?_ | fail | refine qcx 5 hP0 rfl rfl ?_ | refine qa qj3 fun _ => ?_) <;> (try refine ev_ ?_)) | with_reducible exact ti_)
  all_goals (exfalso; revert hc; simp)
end Go.Proofs.Ytfpobiheiloamaa
