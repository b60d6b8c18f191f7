/- Texts of this proof, joined. -/
import Derived.Test.YtfpobiheiloamaaDbc
import Derived.Test.YtfpobiheiloamaaDbd
import Derived.Test.YtfpobiheiloamaaDaw

/- substitutions: new ones, types and their pairs -/
set_option maxRecDepth 4000
namespace Go.Proofs.Ytfpobiheiloamaa
open Go Go.RowKit Go.V
set_option linter.unusedVariables false
set_option linter.unusedSimpArgs false

theorem qfr {l : List Pr} {i : Nat} (h : i < l.length) : l.take (i + 1) = l.take i ++ [l.getD i R0] := by
 rw [List.take_add_one, List.getD_eq_getElem?_getD, List.getElem?_eq_getElem h]; rfl
def smlR (l : List Pr) : Prop := ∀ p ∈ l, szY p.ty ≤ 20000 ∧ dpY p.ty ≤ 300
theorem qmu {l : List Pr} (hs : smlR l) (hl : l.length ≤ 100000) : VCalls Try.prog 33 [] [.sl 4 (qi l)] fun H' o => H' = [subE (newR l)] ∧ o = .val (.ptr 0 0) := by
 refine qp c0bj 1 (by simp) (by simp) ?_
 repeat' (first | refine vs_ ?_ | ((first | refine vr_ ?_ | (refine cs_ ?_ ?_ <;> intro hc) | refine cj_ ?_ | simp (disch := omega) only [encs_getN, qb]) <;> (try refine ev_ ?_)) | with_reducible exact ti_)
 refine q9l 0 rfl rfl ?_
 refine ql (S := Nat) (fun i => i ≤ l.length) (fun i => (⟨[(3, .ptr 0 0), (8, .sl 4 (qi l)), (9, .int .i64 l.length), (10, .int .i64 i)], []⟩, [subE (newR (l.take i))])) (fun i => l.length - i) ?_ fun i hi => ?_
 ·refine qj 0 [0] (Nat.zero_le _) rfl (by simp) ?_ ?_ ?_ <;> simp only [List.take_zero, newR, addR, qg1] <;> (try refine ev_ ?_) <;> (try with_reducible exact ti_) <;> (try simp (disch := omega) only [qb, and_true, true_and])
  all_goals rfl
 ·by_cases hlt : i < l.length
  ·have hok := qkt (l.take i)
   have hln := qop (l.take i)
   rw [List.length_take] at hln
   have hm := hs _ (qb7 hlt)
   have hn : newR (l.take (i + 1)) = (setR (newR (l.take i)) (l.getD i R0).v (l.getD i R0).ty).1 := by rw [qfr hlt, newR, qh8]; rfl
   have hp := qf hlt
   repeat' (first | refine vs_ ?_ | ((first | refine vr_ ?_ | fail) <;> (try simp (disch := first | omega | (simp only [List.length_set, List.length_append, List.length_cons, List.length_nil]; done) | (simp only [List.length_set, List.length_append, List.length_cons, List.length_nil]; omega)) only [hp, qb, go_sem, ↓reduceIte])) | ((first | simp (disch := omega) only [hp] | (refine cs_ ?_ ?_ <;> intro hc) | refine cj_ ?_ | simp (disch := omega) only [encs_getN, qb] | refine qcn 0 (qen hok.1 (by omega) _ hm.1 hm.2) ?_) <;> (try refine ev_ ?_)) | with_reducible exact ti_)
   ·refine qj (i + 1) [0] ⟨by omega, by omega⟩ rfl (by simp) ?_ ?_ ?_ <;> simp only [hn] <;> (try refine ev_ ?_) <;> (try with_reducible exact ti_) <;> (try simp (disch := omega) only [qb, and_true, true_and])
    all_goals rw [qbc (by omega) (by omega), Int.natCast_add]; rfl
   ·exfalso; omega
  ·have hie : i = l.length := by omega
   subst hie
   rw [List.take_length]
   repeat' (first | refine vs_ ?_ | ((first | refine vr_ ?_ | (refine cs_ ?_ ?_ <;> intro hc) | refine cj_ ?_ | simp (disch := omega) only [encs_getN, qb]) <;> (try refine ev_ ?_)) | with_reducible exact ti_)
   all_goals (exfalso; omega)
set_option maxRecDepth 4000

theorem qmm {R : World → (Nat → Nat → Prop) → Gh → Prop} {b : Bool} {s : List Pr} (hG : ∀ v, VM Try.prog 37 (.cus R) (.cus R) [svA b 0, .int .i64 v] (getV s v)) (hs : okS s) {t : Ty} (h1 : szY t ≤ 20000) (h2 : dpY t ≤ 300) :
 VM Try.prog 35 (.cus R) (.cus R) [svA b 0, encY t] (typA (appR s t)) := by
 refine qp c0bi 1 (by simp) (by simp) ?_
 have hLg := qcr h1 h2
 rw [← qba9 hs]
 by_cases hlg : qs t = true
 ·obtain ⟨q1, q2, q3⟩ := (qbh t).1 hlg
  have hput := q7c hG (qoa hs) t (qcj t q3) h1 4096 1 (by omega) (by omega) (by omega) (by omega)
  rw [hlg] at hLg
  by_cases hn : (bput s t 4096 1).1 < 0
  ·have hnd : decide ((bput s t 4096 1).1 < 0) = true := decide_eq_true hn
   rw [appP, if_pos hlg, if_pos hn]
   repeat' (first | refine vs_ ?_ | ((first | refine vr_ ?_ | fail) <;> (try simp only [hnd, go_sem, ↓reduceIte])) | ((first | (refine cs_ ?_ ?_ <;> intro hc) | refine cj_ ?_ | fail | refine qa hLg fun _ => ?_ | refine qnz 3 0 hput (by simp) ?_) <;> (try refine ev_ ?_)) | with_reducible exact ti_)
   all_goals rfl
  ·have hnd : decide ((bput s t 4096 1).1 < 0) = false := decide_eq_false hn
   rw [appP, if_pos hlg, if_neg hn]
   repeat' (first | refine vs_ ?_ | ((first | refine vr_ ?_ | fail) <;> (try simp only [hnd, go_sem, ↓reduceIte])) | ((first | (refine cs_ ?_ ?_ <;> intro hc) | refine cj_ ?_ | fail | refine qa hLg fun _ => ?_ | refine qnz 3 0 hput (by simp) ?_) <;> (try refine ev_ ?_)) | with_reducible exact ti_)
   all_goals rfl
 ·rw [appP, if_neg hlg]
  have hlg : qs t = false := by simpa using hlg
  rw [hlg] at hLg
  repeat' (first | refine vs_ ?_ | ((first | refine vr_ ?_ | refine qa hLg fun _ => ?_ | (refine cs_ ?_ ?_ <;> intro hc) | refine cj_ ?_ | fail) <;> (try refine ev_ ?_)) | with_reducible exact ti_)
  all_goals rfl
set_option maxRecDepth 4000

def zR : AV := .agg [.int .i64 0, .str [], .int .i64 0, .nils]
def cpR (l : List Pr) (i : Nat) : List AV := qi (l.take i) ++ List.replicate (l.length - i) zR
theorem qbam {l : List Pr} {i : Nat} (h : i ≤ l.length) : (cpR l i).length = l.length := by
 rw [cpR, List.length_append, qw, List.length_take, List.length_replicate]; omega
theorem qbf1 (l : List Pr) : cpR l 0 = List.replicate l.length zR := by rw [cpR, List.take_zero, qds, Nat.sub_zero]; rfl
theorem q6r (l : List Pr) : cpR l l.length = qi l := by rw [cpR, List.take_length, Nat.sub_self, List.replicate_zero, List.append_nil]
theorem qr0 {l : List Pr} {i : Nat} (h : i < l.length) : (cpR l i).set i (encR (l.getD i R0)) = cpR l (i + 1) := by
 have h2 : (qi (l.take i)).length = i := by rw [qw, List.length_take]; omega
 obtain ⟨k, hk⟩ : ∃ k, l.length - i = k + 1 := ⟨l.length - i - 1, by omega⟩
 have hk2 : l.length - (i + 1) = k := by omega
 rw [cpR, cpR, hk, hk2, List.replicate_succ, qfr h, ← qf0, List.set_append_right _ _ (by omega), h2, Nat.sub_self, List.set_cons_zero, List.append_assoc]
 rfl
theorem qoe (k : Nat) (l : List Pr) (i : Nat) : AV.bds k (cpR l i) = true := by
 rw [cpR, qfu, q8, qdl]
 simp [zR, AV.bd, AV.bds]
theorem qnk (σ : Nat → Nat) (l : List Pr) (i : Nat) : AV.rens σ (cpR l i) = cpR l i := qo (m := 0) (fun i hi => by omega) _ (qoe 0 l i)
attribute [go_sem] qoe qnk
theorem quh : VCalls Try.prog 41 [.blk [.nils]] [.ptr 0 0] (qd0 fun H' o => H' = [subE []] ∧ o = .val (.sl 4 (qi []))) := by
 refine qp c0bh 1 (by simp) (by simp) ?_
 repeat' (first | refine vs_ ?_ | ((first | refine vr_ ?_ | (refine cs_ ?_ ?_ <;> intro hc) | refine cj_ ?_ | simp (disch := omega) only [encs_getN, qb]) <;> (try refine ev_ ?_)) | with_reducible exact ti_)
 refine ql (S := Unit) (fun _ => True) (fun _ => (⟨[(3, .row 1 0), (18, .int .i64 (0 : Nat)), (19, .int .i64 (0 : Nat))], []⟩, [.blk [.nils], .mrow 4 []])) (fun _ => 0) ?_ fun x hx => ?_
 ·refine qj () [0, 1] trivial rfl (by simp) ?_ ?_ ?_ <;> (try refine ev_ ?_) <;> (try with_reducible exact ti_) <;> (try simp (disch := omega) only [qb, and_true, true_and])
  all_goals rfl
 ·refine qd6 1 rfl (fun v hv => by simp at hv) ?_
  repeat' (first | refine vs_ ?_ | ((first | refine vr_ ?_ | (refine cs_ ?_ ?_ <;> intro hc) | refine cj_ ?_ | simp (disch := omega) only [encs_getN, qb]) <;> (try refine ev_ ?_)) | with_reducible exact ti_)
  ·exact absurd hc (by omega)
  ·exact qeo rfl (by simp) rfl ⟨rfl, rfl⟩
theorem qwr {s : List Pr} (hs : s ≠ []) (hl : s.length ≤ 100000) (ho : smlR s) : VCalls Try.prog 41 [.blk [.row 1 s.length], qbm s] [.ptr 0 0] (qd0 fun H' o => H' = [subE s] ∧ o = .val (.sl 4 (qi s))) := by
 refine qp c0bh 2 (by simp) (by simp) ?_
 repeat' (first | refine vs_ ?_ | ((first | refine vr_ ?_ | (refine cs_ ?_ ?_ <;> intro hc) | refine cj_ ?_ | simp (disch := omega) only [encs_getN, qb]) <;> (try refine ev_ ?_)) | with_reducible exact ti_)
 have hm : s.length ≤ maxLen := by unfold maxLen; omega
 refine ⟨hm, ⟨by omega, by omega⟩, ?_⟩
 repeat' (first | refine vs_ ?_ | ((first | refine vr_ ?_ | (refine cs_ ?_ ?_ <;> intro hc) | refine cj_ ?_ | simp (disch := omega) only [encs_getN, qb]) <;> (try refine ev_ ?_)) | with_reducible exact ti_)
 refine ql (S := Nat) (fun i => i ≤ s.length) (fun i => (⟨[(3, .row 2 s.length), (17, .row 1 s.length), (18, .int .i64 s.length), (19, .int .i64 i)], []⟩, [.blk [.row 1 s.length], qbm s, .mrow 4 (cpR s i)])) (fun i => s.length - i) ?_ fun i hi => ?_
 ·refine qj 0 [0, 1, 2] (Nat.zero_le _) rfl (by simp) ?_ ?_ ?_ <;> simp only [qbf1, zR] <;> (try refine ev_ ?_) <;> (try with_reducible exact ti_) <;> (try simp (disch := omega) only [qb, and_true, true_and])
  all_goals
   rw [show List.replicate s.length (AV.agg [AV.int .i64 0, AV.str [], AV.int .i64 0, AV.nils]) = cpR s 0 from (qbf1 _).symm]
   exact ⟨qoe _ _ _, by rw [qnk]⟩
 ·by_cases hlt : i < s.length
  ·have hp := qf hlt
   have hc := qbam hi
   have hcp := qcu (s.getD i R0).ty (by have := (ho _ (qb7 hlt)).1; omega)
   repeat' (first | refine vs_ ?_ | ((first | refine vr_ ?_ | fail) <;> (try simp (disch := first | omega | (simp only [List.length_set, List.length_append, List.length_cons, List.length_nil]; done) | (simp only [List.length_set, List.length_append, List.length_cons, List.length_nil]; omega)) only [hp, qb, go_sem, ↓reduceIte])) | ((first | simp (disch := omega) only [hp] | (refine cs_ ?_ ?_ <;> intro hc) | refine cj_ ?_ | simp (disch := omega) only [encs_getN, qb] | refine qa hcp fun _ => ?_ | refine qg hcp ?_) <;> (try refine ev_ ?_)) | with_reducible exact ti_)
   ·refine qj (i + 1) [0, 1, 2] ⟨by omega, by omega⟩ rfl (by simp) ?_ ?_ ?_ <;> simp only [← qr0 hlt] <;> (try refine ev_ ?_) <;> (try with_reducible exact ti_) <;> (try simp (disch := omega) only [qb, and_true, true_and])
    all_goals (rw [qr0 hlt]; exact ⟨qoe _ _ _, by rw [qnk]⟩)
   ·exfalso; omega
  ·have hie : i = s.length := by omega
   subst hie
   rw [q6r]
   refine qd6 2 rfl (qiw _) ?_
   repeat' (first | refine vs_ ?_ | ((first | refine vr_ ?_ | (refine cs_ ?_ ?_ <;> intro hc) | refine cj_ ?_ | simp (disch := omega) only [encs_getN, qb]) <;> (try refine ev_ ?_)) | with_reducible exact ti_)
   all_goals try (exfalso; omega)
   all_goals exact qck 1 hs rfl rfl (by simp) (by simp) (by simp [AV.bd, q8]) ⟨rfl, rfl⟩
theorem qcb {s : List Pr} (hl : s.length ≤ 100000) (ho : smlR s) : VM Try.prog 41 (subE s) (subE s) [.ptr 0 0] (.sl 4 (qi s)) := by
 by_cases hs : s = []
 ·subst hs
  exact qjs (by rw [qg1]; exact quh) rfl
 ·exact qjs (by have := qwr hs hl ho; rwa [← qkb hs] at this) rfl
set_option maxRecDepth 4000

section
variable {P : Program} {f : FuncId} {e : Ent} {L : List Ent} {args : List AV} {Q : List Ent → VO → Prop}
theorem qg5 (h : VCalls P f [] args fun H' o => H' = [e] ∧ o = .val (.ptr 0 0)) (hb : e.bd 0 = true) (ha : AV.bds 0 args = true) (hq : Q (L ++ [e]) (.val (.ptr L.length 0))) : VApp P L (.fn f [] []) args Q := by
 refine qyn h ha fun H1 o ho => ?_
 obtain ⟨rfl, rfl⟩ := ho
 have e1 : qgr L [] [e] = L ++ [e] := by
  show L ++ [e.ren _] = _
  rw [Ent.ren_bd0 hb]
 rw [e1]
 exact hq
end
theorem qdg {s : List Pr} (h : okS s) : smlR s := fun p hp => by
 have := (qbh _).1 (h.2 p hp)
 omega
theorem qko : VCalls Try.prog 33 [] [.sl 4 []] fun H' o => H' = [subE []] ∧ o = .val (.ptr 0 0) := qmu (l := []) (fun p hp => by simp at hp) (by simp)
theorem q8x {s : List Pr} (ho : risR s) {i : Nat} (h : i < s.length) : ∀ p ∈ s.take i, p.v < (s.getD i R0).v := fun p hp => by
 obtain ⟨j, hj⟩ := List.mem_iff_getElem?.1 hp
 have hjl := (List.getElem?_eq_some_iff.1 hj).1
 rw [List.length_take] at hjl
 rw [List.getElem?_take] at hj
 split at hj
 ·have := qpe ho j i (by omega) h
  rw [List.getD_eq_getElem?_getD, hj] at this
  exact this
 ·cases hj
theorem qsd {vars : List Int} {s : List Pr} (ho : okS s) {i : Nat} (h : i < s.length) (hv : (s.getD i R0).v ∈ vars) : (setR (qb9 vars (s.take i)) (s.getD i R0).v (s.getD i R0).ty).1 = qb9 vars (s.take (i + 1)) := by
 rw [qfs vars h, if_pos hv, qo1 (ho.2 _ (qb7 h))]
 exact fun p hp => q8x ho.1 h p (List.mem_filter.1 hp).1
theorem qxg {s : List Pr} (ho : risR s) (i : Nat) : risR (s.take i) := by
 induction s generalizing i with
 | nil => simp; exact trivial
 | cons p r ih =>
   cases i with
   | zero => exact trivial
   | succ i => exact ⟨fun q hq => ho.1 q (List.mem_of_mem_take hq), ih ho.2 i⟩
theorem qp8 {s : List Pr} (hs : okS s) (hl : s.length ≤ 40000) (vars : List Int) : VCalls Try.prog 42 [subE s] [.ptr 0 0, .sl 1 (ints vars)] fun H' o => H' = [subE s, subE (qb9 vars s)] ∧ o = .val (.ptr 1 0) := by
 refine qp c0bg 2 (by simp) (by simp) ?_
 repeat' (first | refine vs_ ?_ | ((first | refine vr_ ?_ | refine qg5 qko rfl rfl ?_ | refine qcn 0 (qcb (by omega) (qdg hs)) ?_ | (refine cs_ ?_ ?_ <;> intro hc) | refine cj_ ?_ | simp (disch := omega) only [encs_getN, qb]) <;> (try refine ev_ ?_)) | with_reducible exact ti_)
 refine ql (S := Nat) (fun i => i ≤ s.length) (fun i => (⟨[(1, .sl 1 (ints vars)), (5, .ptr 1 0), (10, .sl 4 (qi s)), (11, .int .i64 s.length), (12, .int .i64 i)], []⟩, [subE s, subE (qb9 vars (s.take i))])) (fun i => s.length - i) ?_ fun i hi => ?_
 ·refine qj 0 [0, 1] (Nat.zero_le _) rfl (by simp) ?_ ?_ ?_ <;> simp only [List.take_zero, qb9, List.filter_nil] <;> (try refine ev_ ?_) <;> (try with_reducible exact ti_) <;> (try simp (disch := omega) only [qb, and_true, true_and])
 ·by_cases hlt : i < s.length
  ·have hp := qf hlt
   have hm := qdg hs _ (qb7 hlt)
   have hwl := qhw vars (s.take i)
   rw [List.length_take] at hwl
   have hris : risR (qb9 vars (s.take i)) := qd9 _ (qxg hs.1 i)
   by_cases hv : (s.getD i R0).v ∈ vars
   ·have hn := qsd hs hlt hv
    have hvd : decide ((s.getD i R0).v ∈ vars) = true := decide_eq_true hv
    repeat' (first | refine vs_ ?_ | ((first | refine vr_ ?_ | fail) <;> (try simp (disch := first | omega | (simp only [List.length_set, List.length_append, List.length_cons, List.length_nil]; done) | (simp only [List.length_set, List.length_append, List.length_cons, List.length_nil]; omega)) only [hp, qb, hvd, go_sem, ↓reduceIte])) | ((first | simp (disch := omega) only [hp] | simp (disch := omega) only [hvd] | (refine cs_ ?_ ?_ <;> intro hc) | refine cj_ ?_ | simp (disch := omega) only [encs_getN, qb] | refine qa (qdw vars _) fun _ => ?_ | refine qcn 1 (qen hris (by omega) _ hm.1 hm.2) ?_) <;> (try refine ev_ ?_)) | with_reducible exact ti_)
    ·refine qj (i + 1) [0, 1] ⟨by omega, by omega⟩ rfl (by simp) ?_ ?_ ?_ <;> simp only [hn] <;> (try refine ev_ ?_) <;> (try with_reducible exact ti_) <;> (try simp (disch := omega) only [qb, and_true, true_and])
     all_goals rw [qbc (by omega) (by omega), Int.natCast_add]; rfl
    ·exfalso; omega
   ·have hn := qfs vars hlt
    rw [if_neg hv, List.append_nil] at hn
    have hvd : decide ((s.getD i R0).v ∈ vars) = false := decide_eq_false hv
    repeat' (first | refine vs_ ?_ | ((first | refine vr_ ?_ | fail) <;> (try simp (disch := first | omega | (simp only [List.length_set, List.length_append, List.length_cons, List.length_nil]; done) | (simp only [List.length_set, List.length_append, List.length_cons, List.length_nil]; omega)) only [hp, qb, hvd, go_sem, ↓reduceIte])) | ((first | simp (disch := omega) only [hp] | simp (disch := omega) only [hvd] | (refine cs_ ?_ ?_ <;> intro hc) | refine cj_ ?_ | simp (disch := omega) only [encs_getN, qb] | refine qa (qdw vars _) fun _ => ?_) <;> (try refine ev_ ?_)) | with_reducible exact ti_)
    ·refine qj (i + 1) [0, 1] ⟨by omega, by omega⟩ rfl (by simp) ?_ ?_ ?_ <;> simp only [hn] <;> (try refine ev_ ?_) <;> (try with_reducible exact ti_) <;> (try simp (disch := omega) only [qb, and_true, true_and])
     all_goals rw [qbc (by omega) (by omega), Int.natCast_add]; rfl
    ·exfalso; omega
  ·have hie : i = s.length := by omega
   subst hie
   rw [List.take_length]
   repeat' (first | refine vs_ ?_ | ((first | refine vr_ ?_ | (refine cs_ ?_ ?_ <;> intro hc) | refine cj_ ?_ | simp (disch := omega) only [encs_getN, qb]) <;> (try refine ev_ ?_)) | with_reducible exact ti_)
   all_goals (exfalso; omega)
set_option maxRecDepth 4000

theorem qik (t : List Pr) (b : List Pr) : ∀ (a acc : List Pr), (qbf t acc a).2 = 0 → qbf t acc (a ++ b) = qbf t (qbf t acc a).1 b
 | [], acc, _ => rfl
 | p :: r, acc, h => by
   rw [qbf] at h
   rw [List.cons_append, qbf, qbf]
   split at h
   ·rename_i h0
    rw [if_pos h0, if_pos h0, qik t b r _ h]
   ·rename_i h0
    exact absurd h h0
theorem qjx {t : List Pr} : ∀ (a : List Pr) {acc : List Pr}, okS acc → okS (qbf t acc a).1
 | [], _, h => h
 | p :: r, acc, h => by
   rw [qbf]
   split
   ·exact qjx r (qnj h _ _)
   ·exact qhp
theorem qif (t : List Pr) : ∀ (a acc : List Pr), (qbf t acc a).1.length ≤ acc.length + a.length
 | [], acc => by simp [qbf]
 | p :: r, acc => by
   rw [qbf, List.length_cons]
   split
   ·have h1 := qif t r (setR acc p.v (appR t p.ty).1).1
    have h2 := qoy acc p.v (appR t p.ty).1
    omega
   ·simp
theorem q25 {s t : List Pr} (hs : okS s) (ht : okS t) : behR s t = if (qbf t [] s).2 = 0 then (addR (qbf t [] s).1 t, 0) else ([], (qbf t [] s).2) := by
 rw [behR, ← qo3 ht s [] hs.1 (fun p hp => by simp at hp)]
theorem qv0 {s t : List Pr} {i : Nat} (h : i < s.length) (h0 : (qbf t [] (s.take i)).2 = 0) : qbf t [] s = qbf t (qbf t [] (s.take i)).1 (s.getD i R0 :: s.drop (i + 1)) := by
 have := qik t (s.drop i) (s.take i) [] h0
 rwa [List.take_append_drop, qw6 h] at this
theorem qpd {s t : List Pr} {i : Nat} (h : i < s.length) (h0 : (qbf t [] (s.take i)).2 = 0) (ha : (appR t (s.getD i R0).ty).2 = 0) : qbf t [] (s.take (i + 1)) = ((setR (qbf t [] (s.take i)).1 (s.getD i R0).v (appR t (s.getD i R0).ty).1).1, 0) := by
 rw [qfr h, qik t _ _ _ h0, qbf, if_pos ha, qbf]
theorem qjg {s t : List Pr} {i : Nat} (h : i < s.length) (h0 : (qbf t [] (s.take i)).2 = 0) (ha : (appR t (s.getD i R0).ty).2 ≠ 0) : qbf t [] s = ([], (appR t (s.getD i R0).ty).2) := by
 rw [qv0 h h0, qbf, if_neg ha]
def newQ (L : List Ent) (p : List Pr × Int) (H' : List Ent) (o : VO) : Prop :=
 if p.2 = 0 then H' = L ++ [subE p.1] ∧ o = .val (.tup [.ptr L.length 0, .int .i64 0]) else H' = L ∧ o = .val (.tup [.nilp, .int .i64 p.2])
theorem qvp {s t : List Pr} (hs : okS s) (ht : okS t) (h1 : s.length ≤ 40000) (h2 : t.length ≤ 40000) : VCalls Try.prog 46 [subE s, subE t] [.ptr 0 0, .ptr 1 0] (newQ [subE s, subE t] (behR s t)) := by
 have hms := qdg hs
 have hmt := qdg ht
 have hA : ∀ ty, szY ty ≤ 20000 → dpY ty ≤ 300 → VM Try.prog 35 (subE t) (subE t) [.ptr 0 0, encY ty] (typA (appR t ty)) := fun ty q1 q2 => qmm (b := true) (R := bunR (subH t)) (fun v => qks ht.1 (by omega) v) ht q1 q2
 have hstep : ∀ i, i < s.length → (qbf t [] (s.take i)).2 = 0 → risR (qbf t [] (s.take i)).1 ∧ (qbf t [] (s.take i)).1.length ≤ 40000 := fun i hi h0 => by
  have := qif t (s.take i) []
  rw [List.length_take] at this
  exact ⟨(qjx (s.take i) qhp).1, by simp at this; omega⟩
 have hap : ∀ i, i < s.length → (appR t (s.getD i R0).ty).2 = 0 → szY (appR t (s.getD i R0).ty).1 ≤ 20000 ∧ dpY (appR t (s.getD i R0).ty).1 ≤ 300 := fun i hi h0 => by
  obtain ⟨_, q2, q3⟩ := qft ht h0
  rw [q3]
  have := (qbh _).1 q2
  omega
 rw [q25 hs ht]
 by_cases he : (qbf t [] s).2 = 0
 ·rw [if_pos he]
  refine qp c0bf 3 (by simp) (by simp) ?_
  repeat' (first | refine vs_ ?_ | ((first | refine vr_ ?_ | refine qg5 qko rfl rfl ?_ | refine qcn 0 (qcb (by omega) hms) ?_ | (refine cs_ ?_ ?_ <;> intro hc) | refine cj_ ?_ | simp (disch := omega) only [encs_getN, qb]) <;> (try refine ev_ ?_)) | with_reducible exact ti_)
  refine ql (S := Nat) (fun i => i ≤ s.length ∧ (qbf t [] (s.take i)).2 = 0) (fun i => (⟨[(1, .ptr 1 0), (6, .ptr 2 0), (15, .sl 4 (qi s)), (16, .int .i64 s.length), (17, .int .i64 i)], []⟩, [subE s, subE t, subE (qbf t [] (s.take i)).1])) (fun i => s.length - i) ?_ fun i hi => ?_
  ·refine qj 0 [0, 1, 2] ⟨Nat.zero_le _, rfl⟩ rfl (by simp) ?_ ?_ ?_ <;> simp only [List.take_zero, qbf] <;> (try refine ev_ ?_) <;> (try with_reducible exact ti_) <;> (try simp (disch := omega) only [qb, and_true, true_and])
  ·obtain ⟨hi, h0⟩ := hi
   by_cases hlt : i < s.length
   ·have hp := qf hlt
    have hm := hms _ (qb7 hlt)
    obtain ⟨a1, a2⟩ := hstep i hlt h0
    by_cases ha : (appR t (s.getD i R0).ty).2 = 0
    ·obtain ⟨b1, b2⟩ := hap i hlt ha
     have hn := qpd hlt h0 ha
     have hT : typA (appR t (s.getD i R0).ty) = .tup [encY (appR t (s.getD i R0).ty).1, .int .i64 0] := by rw [typA, ha]
     repeat' (first | refine vs_ ?_ | ((first | refine vr_ ?_ | fail) <;> (try simp (disch := first | omega | (simp only [List.length_set, List.length_append, List.length_cons, List.length_nil]; done) | (simp only [List.length_set, List.length_append, List.length_cons, List.length_nil]; omega)) only [hp, qb, go_sem, ↓reduceIte])) | ((first | simp (disch := omega) only [hp] | simp (disch := omega) only [hT] | (refine cs_ ?_ ?_ <;> intro hc) | refine cj_ ?_ | simp (disch := omega) only [encs_getN, qb] | refine qcn 1 (hA _ hm.1 hm.2) ?_ rfl rfl (by simp) rfl (qha 0 _) | refine qcn 2 (qen a1 (by omega) _ b1 b2) ?_) <;> (try refine ev_ ?_)) | with_reducible exact ti_)
     ·refine qj (i + 1) [0, 1, 2] ⟨⟨by omega, by rw [hn]⟩, by omega⟩ rfl (by simp) ?_ ?_ ?_ <;> simp only [hn] <;> (try refine ev_ ?_) <;> (try with_reducible exact ti_) <;> (try simp (disch := omega) only [qb, and_true, true_and])
      all_goals rw [qbc (by omega) (by omega), Int.natCast_add]; rfl
     ·exfalso; omega
    ·exact absurd (by rw [qjg hlt h0 ha] at he; exact he) ha
   ·have hie : i = s.length := by omega
    subst hie
    rw [List.take_length]
    have hok : okS (qbf t [] s).1 := qjx s qhp
    have hln := qif t s []
    simp only [List.length_nil, Nat.zero_add] at hln
    repeat' (first | refine vs_ ?_ | ((first | refine vr_ ?_ | refine qcn 1 (qcb (by omega) hmt) ?_ | (refine cs_ ?_ ?_ <;> intro hc) | refine cj_ ?_ | simp (disch := omega) only [encs_getN, qb]) <;> (try refine ev_ ?_)) | with_reducible exact ti_)
    ·exfalso; omega
    ·generalize (qbf t [] s).1 = a at hok hln ⊢
     refine ql (S := Nat) (fun i => i ≤ t.length) (fun i => (⟨[(6, .ptr 2 0), (38, .sl 4 (qi t)), (39, .int .i64 t.length), (40, .int .i64 i)], []⟩, [subE s, subE t, subE (addR a (t.take i))])) (fun i => t.length - i) ?_ fun i hi => ?_
     ·refine qj 0 [0, 1, 2] (Nat.zero_le _) rfl (by simp) ?_ ?_ ?_ <;> simp only [List.take_zero, addR] <;> (try refine ev_ ?_) <;> (try with_reducible exact ti_) <;> (try simp (disch := omega) only [qb, and_true, true_and])
     ·by_cases hlt : i < t.length
      ·have hp := qf hlt
       have hm := hmt _ (qb7 hlt)
       have hq := qjz (t.take i) hok
       have hql := qgy (t.take i) a
       rw [List.length_take] at hql
       have hn := ql0 hlt a
       repeat' (first | refine vs_ ?_ | ((first | refine vr_ ?_ | fail) <;> (try simp (disch := first | omega | (simp only [List.length_set, List.length_append, List.length_cons, List.length_nil]; done) | (simp only [List.length_set, List.length_append, List.length_cons, List.length_nil]; omega)) only [hp, qb, go_sem, ↓reduceIte])) | ((first | simp (disch := omega) only [hp] | (refine cs_ ?_ ?_ <;> intro hc) | refine cj_ ?_ | simp (disch := omega) only [encs_getN, qb] | refine qcn 2 (qen hq.1 (by omega) _ hm.1 hm.2) ?_) <;> (try refine ev_ ?_)) | with_reducible exact ti_)
       ·refine qj (i + 1) [0, 1, 2] ⟨by omega, by omega⟩ rfl (by simp) ?_ ?_ ?_ <;> simp only [hn] <;> (try refine ev_ ?_) <;> (try with_reducible exact ti_) <;> (try simp (disch := omega) only [qb, and_true, true_and])
        all_goals rw [qbc (by omega) (by omega), Int.natCast_add]; rfl
      ·have hie : i = t.length := by omega
       subst hie
       rw [List.take_length]
       repeat' (first | refine vs_ ?_ | ((first | refine vr_ ?_ | (refine cs_ ?_ ?_ <;> intro hc) | refine cj_ ?_ | simp (disch := omega) only [encs_getN, qb]) <;> (try refine ev_ ?_)) | with_reducible exact ti_)
       all_goals try (exfalso; omega)
       all_goals
        rw [newQ, if_pos rfl]
        exact ⟨rfl, rfl⟩
 ·rw [if_neg he]
  refine qp c0bf 2 (by simp) (by simp) ?_
  repeat' (first | refine vs_ ?_ | ((first | refine vr_ ?_ | refine qg5 qko rfl rfl ?_ | refine qcn 0 (qcb (by omega) hms) ?_ | (refine cs_ ?_ ?_ <;> intro hc) | refine cj_ ?_ | simp (disch := omega) only [encs_getN, qb]) <;> (try refine ev_ ?_)) | with_reducible exact ti_)
  refine ql (S := Nat) (fun i => i ≤ s.length ∧ (qbf t [] (s.take i)).2 = 0) (fun i => (⟨[(1, .ptr 1 0), (6, .ptr 2 0), (15, .sl 4 (qi s)), (16, .int .i64 s.length), (17, .int .i64 i)], []⟩, [subE s, subE t, subE (qbf t [] (s.take i)).1])) (fun i => s.length - i) ?_ fun i hi => ?_
  ·refine qj 0 [0, 1, 2] ⟨Nat.zero_le _, rfl⟩ rfl (by simp) ?_ ?_ ?_ <;> simp only [List.take_zero, qbf] <;> (try refine ev_ ?_) <;> (try with_reducible exact ti_) <;> (try simp (disch := omega) only [qb, and_true, true_and])
  ·obtain ⟨hi, h0⟩ := hi
   have hlt : i < s.length := by
    by_cases hlt : i < s.length
    ·exact hlt
    ·rw [List.take_of_length_le (by omega)] at h0
     exact absurd h0 he
   have hp := qf hlt
   have hm := hms _ (qb7 hlt)
   obtain ⟨a1, a2⟩ := hstep i hlt h0
   by_cases ha : (appR t (s.getD i R0).ty).2 = 0
   ·obtain ⟨b1, b2⟩ := hap i hlt ha
    have hn := qpd hlt h0 ha
    have hT : typA (appR t (s.getD i R0).ty) = .tup [encY (appR t (s.getD i R0).ty).1, .int .i64 0] := by rw [typA, ha]
    repeat' (first | refine vs_ ?_ | ((first | refine vr_ ?_ | fail) <;> (try simp (disch := first | omega | (simp only [List.length_set, List.length_append, List.length_cons, List.length_nil]; done) | (simp only [List.length_set, List.length_append, List.length_cons, List.length_nil]; omega)) only [hp, qb, go_sem, ↓reduceIte])) | ((first | simp (disch := omega) only [hp] | simp (disch := omega) only [hT] | (refine cs_ ?_ ?_ <;> intro hc) | refine cj_ ?_ | simp (disch := omega) only [encs_getN, qb] | refine qcn 1 (hA _ hm.1 hm.2) ?_ rfl rfl (by simp) rfl (qha 0 _) | refine qcn 2 (qen a1 (by omega) _ b1 b2) ?_) <;> (try refine ev_ ?_)) | with_reducible exact ti_)
    ·refine qj (i + 1) [0, 1, 2] ⟨⟨by omega, by rw [hn]⟩, by omega⟩ rfl (by simp) ?_ ?_ ?_ <;> simp only [hn] <;> (try refine ev_ ?_) <;> (try with_reducible exact ti_) <;> (try simp (disch := omega) only [qb, and_true, true_and])
     all_goals rw [qbc (by omega) (by omega), Int.natCast_add]; rfl
    ·exfalso; omega
   ·have hT : typA (appR t (s.getD i R0).ty) = .tup [encY (appR t (s.getD i R0).ty).1, .int .i64 (appR t (s.getD i R0).ty).2] := rfl
    have had : decide ((appR t (s.getD i R0).ty).2 = 0) = false := decide_eq_false ha
    rw [qjg hlt h0 ha]
    repeat' (first | refine vs_ ?_ | ((first | refine vr_ ?_ | fail) <;> (try simp (disch := first | omega | (simp only [List.length_set, List.length_append, List.length_cons, List.length_nil]; done) | (simp only [List.length_set, List.length_append, List.length_cons, List.length_nil]; omega)) only [hp, qb, had, go_sem, ↓reduceIte])) | ((first | simp (disch := omega) only [hp] | simp (disch := omega) only [hT] | (refine cs_ ?_ ?_ <;> intro hc) | refine cj_ ?_ | simp (disch := omega) only [encs_getN, qb] | refine qcn 1 (hA _ hm.1 hm.2) ?_ rfl rfl (by simp) rfl (qha 0 _)) <;> (try refine ev_ ?_)) | with_reducible exact ti_)
    all_goals try (exfalso; omega)
    all_goals
     rw [newQ, if_neg ha]
     exact ⟨rfl, rfl⟩
set_option maxRecDepth 4000

def fewR (l : List Pr) : Bool := decide (l.length ≤ 30) && qdo (l.map Pr.ty)
theorem qiu (l : List Pr) (i : Nat) (h : i < l.length) : (l.map Pr.ty).take (i + 1) = (l.map Pr.ty).take i ++ [(l.getD i R0).ty] := by
 rw [List.take_add_one, List.getElem?_map, List.getElem?_eq_getElem h, List.getD_eq_getElem?_getD, List.getElem?_eq_getElem h]; rfl
def qls (l : List Pr) (i : Nat) : AF × List Ent := (⟨[(0, .sl 4 (qi l)), (3, accV 0 (qr ((l.map Pr.ty).take i))), (4, .int .i64 i)], []⟩, accE 3 (qr ((l.map Pr.ty).take i)))
theorem qbff (l : List Pr) : qm Try.prog 30 [.sl 4 (qi l)] (.int .i64 (if fewR l = true then 1 else 0)) := by
 refine qd c0be (by simp) (by simp only [go_sem]) rfl fun hw => ?_
 have hl := (qdf hw.1).1
 repeat' (first | refine vs_ ?_ | ((first | refine vr_ ?_ | (refine cs_ ?_ ?_ <;> intro hc) | refine cj_ ?_ | simp (disch := omega) only [encs_getN, qb]) <;> (try refine ev_ ?_)) | with_reducible exact ti_)
 ·rw [if_neg (by simp [fewR]; omega)]
 have h30 : l.length ≤ 30 := by omega
 refine ql (S := Nat) (fun i => i ≤ l.length) (qls l) (fun i => l.length - i) ?_ fun i hi => ?_
 ·refine qj 0 [] (Nat.zero_le _) rfl (by simp) ?_ ?_ ?_ <;> simp only [qls, List.take_zero, qc6, qbz, qby] <;> (try refine ev_ ?_) <;> (try with_reducible exact ti_) <;> (try simp (disch := omega) only [qb, and_true, true_and])
 ·have hfin : fewR l = qdo (l.map Pr.ty) := by rw [fewR, decide_eq_true h30, Bool.true_and]
  have hlm : ((l.map Pr.ty).take i).length = i := by rw [List.length_take, List.length_map]; omega
  have hcap : qc8 (i + 1) 48 = True := eq_true (capY (by omega))
  unfold qls
  by_cases hlt : i < l.length
  ·have hs := qiu l i hlt
   by_cases h0 : i = 0
   ·subst h0
    simp only [List.take_zero, qc6, qbz, qby]
    repeat' (first | refine vs_ ?_ | ((first | refine vr_ ?_ | fail) <;> (try simp (disch := first | omega | (simp only [List.length_set, List.length_append, List.length_cons, List.length_nil]; done) | (simp only [List.length_set, List.length_append, List.length_cons, List.length_nil]; omega)) only [qf, qb, qcs, go_sem, ↓reduceIte])) | ((first | simp (disch := omega) only [qf] | simp (disch := omega) only [qcs] | simp (disch := omega) only [(show qc8 1 48 = True from eq_true (capY (by omega)))] | (refine cs_ ?_ ?_ <;> intro hc) | refine cj_ ?_ | simp (disch := omega) only [encs_getN, qb]) <;> (try refine ev_ ?_)) | with_reducible exact ti_)
    ·refine qj 1 [0] ⟨by omega, by omega⟩ rfl (by simp) ?_ ?_ ?_ <;> simp only [qls, hs, List.take_zero, List.nil_append, ← qp3, qgz, qgw] <;> (try refine ev_ ?_) <;> (try with_reducible exact ti_) <;> (try simp (disch := omega) only [qb, and_true, true_and])
     all_goals (rw [qfy])
    ·omega
   ·have hne : (l.map Pr.ty).take i ≠ [] := fun h => h0 (by rw [← hlm, h]; rfl)
    simp only [qdp (qg2 hne), qdv (qg2 hne), q6, hlm]
    repeat' (first | refine vs_ ?_ | ((first | refine vr_ ?_ | fail) <;> (try simp (disch := first | omega | (simp only [List.length_set, List.length_append, List.length_cons, List.length_nil]; done) | (simp only [List.length_set, List.length_append, List.length_cons, List.length_nil]; omega)) only [qf, qb, qcs, q6, hlm, go_sem, ↓reduceIte])) | ((first | simp (disch := omega) only [qf] | simp (disch := omega) only [qcs] | simp (disch := omega) only [hcap] | (refine cs_ ?_ ?_ <;> intro hc) | refine cj_ ?_ | simp (disch := omega) only [encs_getN, qb]) <;> (try refine ev_ ?_)) | with_reducible exact ti_)
    ·have hl2 : qr ((l.map Pr.ty).take (i + 1)) = qr ((l.map Pr.ty).take i) ++ [encY (l.getD i R0).ty] := by rw [hs, qeu]
     refine qj (i + 1) [1] ⟨by omega, by omega⟩ rfl (by simp) ?_ ?_ ?_ <;> simp only [qls, hl2, qfe, qey, q6, hlm] <;> (try refine ev_ ?_) <;> (try with_reducible exact ti_) <;> (try simp (disch := omega) only [qb, and_true, true_and])
     all_goals (simp only [qeu]; exact ⟨qch _ _, by rw [qh9]⟩)
    ·omega
  ·have hend : (l.map Pr.ty).take i = l.map Pr.ty := List.take_of_length_le (by rw [List.length_map]; omega)
   have hf := qbbp (l.map Pr.ty)
   rw [hend, hfin]
   by_cases h0 : l.map Pr.ty = []
   ·rw [h0] at hf ⊢
    simp only [qc6, qbz, qby]
    repeat' (first | refine vs_ ?_ | ((first | refine vr_ ?_ | fail) <;> (try simp only [qbb, go_sem, ↓reduceIte])) | ((first | (refine cs_ ?_ ?_ <;> intro hc) | refine cj_ ?_ | simp (disch := omega) only [encs_getN, qb] | refine qa hf fun _ => ?_) <;> (try refine ev_ ?_)) | with_reducible exact ti_)
    all_goals omega
   ·simp only [qdp (qg2 h0), qdv (qg2 h0), q6]
    repeat' (first | refine vs_ ?_ | ((first | refine vr_ ?_ | fail) <;> (try simp only [q6, go_sem, ↓reduceIte])) | ((first | (refine cs_ ?_ ?_ <;> intro hc) | refine cj_ ?_ | simp (disch := omega) only [encs_getN, qb] | refine qa hf fun _ => ?_) <;> (try refine ev_ ?_)) | with_reducible exact ti_)
    all_goals omega
set_option maxRecDepth 4000

theorem qyz {l : List Pr} (hl : l.length ≤ maxLen) (h : fewR l = true) : l.length ≤ 30 ∧ smlR l := by
 rw [fewR, Bool.and_eq_true, decide_eq_true_eq] at h
 refine ⟨h.1, fun p hp => ?_⟩
 have := qsa (l := l.map Pr.ty) (by rw [List.length_map]; exact hl) h.2
 have hm : p.ty ∈ l.map Pr.ty := List.mem_map_of_mem hp
 have h1 := qef hm
 have h2 := qni hm
 omega
section
variable {L : List Ent} {Q : List Ent → VO → Prop} {s t : List Pr}
theorem qbad {l : List Pr} (hs : smlR l) (hl : l.length ≤ 100000) (hq : Q (L ++ [subE (newR l)]) (.val (.ptr L.length 0))) : VApp Try.prog L (.fn 33 [] []) [.sl 4 (qi l)] Q :=
 qg5 (qmu hs hl) rfl (by simp only [AV.bds, AV.bd, q8, Bool.and_true]) hq
theorem qq9 (a : Nat) (hs : okS s) (hl : s.length ≤ 40000) (vars : List Int) (hq : Q (L ++ [subE (qb9 vars s)]) (.val (.ptr L.length 0))) (h0 : ent L a = subE s := by rfl) (ha : a < L.length := by simp) : VApp Try.prog L (.fn 42 [] []) [.ptr a 0, .sl 1 (ints vars)] Q := by
 refine qcz ?_
 rw [List.nil_append, List.append_nil]
 refine qb0 [a] (qp8 hs hl vars) (by simp) ⟨⟨ha, rfl, by rw [h0]; rfl⟩, trivial⟩ (by simp only [AV.bds, AV.bd, qkc, Bool.and_true]; rfl) (by simp only [AV.rens, AV.ren, qo7]; rfl) fun H1 o ho => ?_
 obtain ⟨rfl, rfl⟩ := ho
 have e1 : qgr L [a] [subE s, subE (qb9 vars s)] = L ++ [subE (qb9 vars s)] := by
  show (L.set a (subE s)) ++ [subE (qb9 vars s)] = _
  rw [qda h0 ha]
 rw [e1]
 simp only [VO.ren, AV.ren]
 show Q _ (.val (.ptr (L.length + (1 - 1)) 0))
 exact hq
theorem qv9 (a b : Nat) (hs : okS s) (ht : okS t) (h1 : s.length ≤ 40000) (h2 : t.length ≤ 40000) (hab : a ≠ b) (hq : if (behR s t).2 = 0 then Q (L ++ [subE (behR s t).1]) (.val (.tup [.ptr L.length 0, .int .i64 0])) else Q L (.val (.tup [.nilp, .int .i64 (behR s t).2])))
 (h0 : ent L a = subE s := by rfl) (h0' : ent L b = subE t := by rfl) (ha : a < L.length := by simp) (hb : b < L.length := by simp) : VApp Try.prog L (.fn 46 [] []) [.ptr a 0, .ptr b 0] Q := by
 refine qcz ?_
 rw [List.nil_append, List.append_nil]
 refine qb0 [a, b] (qvp hs ht h1 h2) (by simp [hab]) ⟨⟨ha, rfl, by rw [h0]; rfl⟩, ⟨hb, rfl, by rw [h0']; rfl⟩, trivial⟩ rfl (by rfl) fun H1 o ho => ?_
 have e0 : (L.set a (subE s)).set b (subE t) = L := by
  rw [qda h0 ha, qda h0' hb]
 rw [newQ] at ho
 split at ho
 ·rename_i he
  rw [if_pos he] at hq
  obtain ⟨rfl, rfl⟩ := ho
  have e1 : qgr L [a, b] ([subE s, subE t] ++ [subE (behR s t).1]) = L ++ [subE (behR s t).1] := by
   show ((L.set a (subE s)).set b (subE t)) ++ [subE (behR s t).1] = _
   rw [e0]
  rw [e1]
  show Q _ (.val (.tup [.ptr (L.length + (2 - 2)) 0, .int .i64 0]))
  exact hq
 ·rename_i he
  rw [if_neg he] at hq
  obtain ⟨rfl, rfl⟩ := ho
  have e1 : qgr L [a, b] [subE s, subE t] = L := by
   show ((L.set a (subE s)).set b (subE t)) ++ [] = _
   rw [e0, List.append_nil]
  rw [e1]
  exact hq
theorem qc0 {f : FuncId} {e e' : Ent} {rest : List AV} {r : AV} (i : Nat) (h : VM Try.prog f e e' (.ptr 0 0 :: rest) r) (hrest : AV.bds 0 rest = true) (hr : r.bd 0 = true) (hq : Q (L.set i e') (.val r)) (hb : e.bd 0 = true := by rfl) (hb' : e'.bd 0 = true := by rfl) (hi : i < L.length := by simp) (he : ent L i = e := by rfl) :
 VApp Try.prog L (.fn f [] []) (.ptr i 0 :: rest) Q := by
 refine qcn i h hq hb hb' hi he hr ?_ ?_
 ·rw [List.append_nil, AV.rens, qo (m := 0) (fun j hj => by omega) rest hrest]; rfl
 ·rw [AV.bds, Bool.and_eq_true]
  exact ⟨rfl, qb6 (Nat.zero_le _) _ hrest⟩
theorem qur {l : List Pr} (hs : smlR l) (hl : l.length ≤ 100000) (e : newR l = s) (hq : Q (L ++ [subE s]) (.val (.ptr L.length 0))) : VApp Try.prog L (.fn 33 [] []) [.sl 4 (qi l)] Q := by
 subst e; exact qbad hs hl hq
theorem qmt (a : Nat) (hs : okS s) (hl : s.length ≤ 40000) (vars : List Int) (e : qb9 vars s = t) (hq : Q (L ++ [subE t]) (.val (.ptr L.length 0))) (h0 : ent L a = subE s := by rfl) (ha : a < L.length := by simp) : VApp Try.prog L (.fn 42 [] []) [.ptr a 0, .sl 1 (ints vars)] Q := by
 subst e; exact qq9 a hs hl vars hq h0 ha
theorem q73 (a b : Nat) {r : List Pr} (hs : okS s) (ht : okS t) (h1 : s.length ≤ 40000) (h2 : t.length ≤ 40000) (hab : a ≠ b) (he : behR s t = (r, 0)) (hq : Q (L ++ [subE r]) (.val (.tup [.ptr L.length 0, .int .i64 0])))
 (h0 : ent L a = subE s := by rfl) (h0' : ent L b = subE t := by rfl) (ha : a < L.length := by simp) (hb : b < L.length := by simp) : VApp Try.prog L (.fn 46 [] []) [.ptr a 0, .ptr b 0] Q := by
 refine qv9 a b hs ht h1 h2 hab ?_ h0 h0' ha hb
 rw [he, if_pos rfl]
 exact hq
theorem qoq (hs : okS s) (hl : s.length ≤ 100000) {ty : Ty} (q1 : szY ty ≤ 20000) (q2 : dpY ty ≤ 300) : VM Try.prog 35 (subE s) (subE s) [.ptr 0 0, encY ty] (typA (appR s ty)) :=
 qmm (b := true) (R := bunR (subH s)) (fun v => qks hs.1 hl v) hs q1 q2
end
def wT : Ty := ⟨[84], 0, []⟩
def wU : Ty := ⟨[85], 0, []⟩
def wV : Ty := ⟨[86], 0, []⟩
def wB : Ty := ⟨[], 1, []⟩
def wF : Ty := ⟨[45, 62], 0, [Y0, wB]⟩
def wR : Ty := ⟨[45, 62], 0, [wT, wB]⟩
def S1 : List Pr := [⟨0, wT⟩]
def S2 : List Pr := [⟨0, wT⟩, ⟨1, Y0⟩]
def S3 : List Pr := [⟨0, wV⟩]
def S4 : List Pr := [⟨0, wT⟩, ⟨1, wV⟩]
theorem w1 : newR [⟨0, wT⟩, ⟨0, wU⟩] = S1 := by rfl
theorem w3 : newR [⟨0, wV⟩] = S3 := by rfl
theorem S1_ok : okS S1 := w1 ▸ qkt _
theorem q3v : okS S3 := w3 ▸ qkt _
theorem w2 : setR S1 1 Y0 = (S2, 0) := by rfl
theorem qud : okS S2 := by have := qnj S1_ok 1 Y0; rwa [w2] at this
theorem w4 : behR S2 S3 = (S4, 0) := by rfl
theorem S4_ok : okS S4 := by have := q1b qud q3v; rwa [w4] at this
theorem k0 : VM Try.prog 35 (subE S1) (subE S1) [.ptr 0 0, encY wF] (.tup [encY wR, .int .i64 0]) := qoq S1_ok (by decide) (ty := wF) (by decide) (by decide)
theorem k1 : VM Try.prog 45 (subE S1) (subE S1) [.ptr 0 0, .int .i64 0, encY wT] (.int .i64 6) := qen S1_ok.1 (by decide) 0 (t := wT) (by decide) (by decide)
theorem k2 : VM Try.prog 45 (subE S1) (subE S2) [.ptr 0 0, .int .i64 1, encY Y0] (.int .i64 0) := qen S1_ok.1 (by decide) 1 (t := Y0) (by decide) (by decide)
theorem k4 : VM Try.prog 37 (subE S4) (subE S4) [.ptr 0 0, .int .i64 1] (.tup [encY wV, .bool true]) := qks S4_ok.1 (by decide) 1
theorem k5 : VM Try.prog 41 (subE S2) (subE S2) [.ptr 0 0] (.sl 4 (qi S2)) := qcb (by decide) (qdg qud)
theorem w6 : qb9 [1] S2 = [⟨1, Y0⟩] := by rfl
theorem k6 : VM Try.prog 41 (subE [⟨1, Y0⟩]) (subE [⟨1, Y0⟩]) [.ptr 0 0] (.sl 4 (qi [⟨1, Y0⟩])) := qcb (by decide) (qdg (by have := qpn qud [1]; rwa [w6] at this))
theorem k7 : qm Try.prog 75 [encY wR] (.str [84, 32, 45, 62, 32, 98]) := qqi (t := wR) (by decide) (by decide) (by decide)
theorem qj9 : qm Try.prog 32 [] (.bool true) := by
 refine qd c0bd (by simp) rfl rfl fun hw => ?_
 have hv : wV.con = [86] := rfl
 have hl2 : (S2.length : Int) = 2 := rfl
 have hl1 : (([⟨1, Y0⟩] : List Pr).length : Int) = 1 := rfl
 repeat' (first | refine vs_ ?_ | ((first | refine vr_ ?_ | fail) <;> (try simp only [hv, hl2, hl1, go_sem, ↓reduceIte])) | ((first | (refine cs_ ?_ ?_ <;> intro hc) | refine cj_ ?_ | fail | refine qur (l := [⟨0, wT⟩, ⟨0, wU⟩]) (fun p hp => by simp at hp; rcases hp with rfl | rfl <;> simp [wT, wU, szY, szYs, dpY, dpYs]) (by simp) w1 ?_ | refine qur (l := [⟨0, wV⟩]) (qdg q3v) (by simp) w3 ?_ | refine qc0 1 k0 rfl rfl ?_ | refine qc0 1 k1 rfl rfl ?_ | refine qc0 1 k2 rfl rfl ?_ | refine q73 1 3 qud q3v (by decide) (by decide) (by decide) w4 ?_ | refine qc0 4 k4 rfl rfl ?_) <;> (try refine ev_ ?_)) | with_reducible exact ti_)
 repeat' (first | refine vs_ ?_ | ((first | refine vr_ ?_ | fail) <;> (try simp only [hv, hl2, hl1, go_sem, ↓reduceIte])) | ((first | (refine cs_ ?_ ?_ <;> intro hc) | refine cj_ ?_ | fail | refine qa k7 fun _ => ?_) <;> (try refine ev_ ?_)) | with_reducible exact ti_)
 repeat' (first | refine vs_ ?_ | ((first | refine vr_ ?_ | fail) <;> (try simp only [hl2, hl1, go_sem, ↓reduceIte])) | ((first | (refine cs_ ?_ ?_ <;> intro hc) | refine cj_ ?_ | fail | refine qc0 1 k5 rfl (by rfl) ?_) <;> (try refine ev_ ?_)) | with_reducible exact ti_)
 ·repeat' (first | refine vs_ ?_ | ((first | refine vr_ ?_ | refine qmt 1 qud (by decide) [1] w6 ?_ | (refine cs_ ?_ ?_ <;> intro hc) | refine cj_ ?_ | fail) <;> (try refine ev_ ?_)) | with_reducible exact ti_)
  repeat' (first | refine vs_ ?_ | ((first | refine vr_ ?_ | refine qc0 6 k6 rfl (by rfl) ?_ | (refine cs_ ?_ ?_ <;> intro hc) | refine cj_ ?_ | fail) <;> (try refine ev_ ?_)) | with_reducible exact ti_)
 ·exact absurd hl2 hc
set_option maxRecDepth 4000

mutual
theorem qjj : ∀ t, qel t t = true
 | .mk c v l => by rw [qel, qh7 l]; simp
theorem qh7 : ∀ l, qz l l = true
 | [] => by rw [qz]
 | x :: r => by rw [qz, qjj x, qh7 r]; rfl
end
theorem ql2 (t : Ty) : qm Try.prog 39 [encY t, encY t] (.bool true) := qcx (qf5 t t) (by rw [qjj])
theorem qma {l : List Pr} (h : fewR l = true) : qm Try.prog 30 [.sl 4 (qi l)] (.int .i64 1) := qcx (qbff l) (by rw [h]; rfl)
theorem qxh {l : List Pr} (h : fewR l = false) : qm Try.prog 30 [.sl 4 (qi l)] (.int .i64 0) := qcx (qbff l) (by rw [h]; rfl)
theorem qrv {l : List Ty} (h : qdo l = true) : qm Try.prog 31 [.sl 3 (qr l)] (.int .i64 1) := qcx (qbbp l) (by rw [h]; rfl)
theorem qwp {l : List Ty} (h : qdo l = false) : qm Try.prog 31 [.sl 3 (qr l)] (.int .i64 0) := qcx (qbbp l) (by rw [h]; rfl)
theorem qsx {t : Ty} (h : qdo [t] = true) : szY t ≤ 20000 ∧ dpY t ≤ 300 := by
 have := qsa (l := [t]) (by unfold maxLen; simp) h
 have h1 := qef (l := [t]) (x := t) (by simp)
 have h2 := qni (l := [t]) (x := t) (by simp)
 omega
set_option maxRecDepth 4000

theorem qlt (l : List Pr) : qm Try.prog 40 [.sl 4 (qi l), .sl 4 (qi l)] (.bool true) := qcx (qqq l l) (by rw [(qid l l).2 rfl])
theorem qvb {l : List Pr} (h : smlR l) : q0a l := h
set_option maxRecDepth 4000

set_option maxRecDepth 4000

set_option maxRecDepth 4000

set_option maxHeartbeats 2000000 in
theorem qno (a : List Pr) (ty : Ty) (vars : List Int) : qm Try.prog 6 [.sl 4 (qi a), encY ty, .sl 1 (ints vars)] (.bool true) := by
 refine qd c0bc (by simp) (by simp only [AV.bds, AV.bd, q8, qbu, qkc, Bool.and_true]) rfl fun hw => ?_
 have hla := (qdf hw.1).1
 have hlv : vars.length ≤ maxLen := by have := hw.2.2.1.1; rwa [qg0] at this
 have h10 : decide ((1 : Int) = 0) = false := rfl
 by_cases hfa : fewR a = true
 case neg =>
  have hfa : fewR a = false := by simpa using hfa
  repeat' (first | refine vs_ ?_ | ((first | refine vr_ ?_ | refine qa (qxh hfa) fun _ => ?_ | refine qa qj9 fun _ => ?_ | (refine cs_ ?_ ?_ <;> intro hc) | refine cj_ ?_ | simp (disch := omega) only [encs_getN, qb]) <;> (try refine ev_ ?_)) | with_reducible exact ti_)
 by_cases hft : qdo [ty] = true
 case neg =>
  have hft : qdo [ty] = false := by simpa using hft
  repeat' (first | refine vs_ ?_ | ((first | refine vr_ ?_ | refine qa (qma hfa) fun _ => ?_ | refine qa (qwp hft) fun _ => ?_ | refine qa qj9 fun _ => ?_ | (refine cs_ ?_ ?_ <;> intro hc) | refine cj_ ?_ | simp (disch := omega) only [encs_getN, qb]) <;> (try refine ev_ ?_)) | with_reducible exact ti_)
 obtain ⟨ha1, ha2⟩ := qyz hla hfa
 obtain ⟨ht1, ht2⟩ := qsx hft
 have hS := qkt a
 have hSl := qop a
 have hR1 := quc (l := a) (by omega) (qvb ha2)
 obtain ⟨S, hnS⟩ : ∃ S, newR a = S := ⟨_, rfl⟩
 rw [hnS] at hS hSl hR1
 have hT0 : ∀ p : Ty × Int, typA p = .tup [encY p.1, .int .i64 p.2] := fun _ => rfl
 have hby : ∀ t, AV.bds 0 [encY t] = true := fun t => by simp only [AV.bds, qbu, Bool.and_true]
 have hAS := qoq hS (by omega) ht1 ht2
 have hRA := qm2 hS ht1 ht2
 rw [hT0] at hAS hRA
 have hb1 : AV.bd 0 (.tup [encY (appR S ty).1, .int .i64 (appR S ty).2]) = true := qha 0 _
 generalize appR S ty = X at hAS hRA hb1
 repeat' (first | refine vs_ ?_ | ((first | refine vr_ ?_ | fail) <;> (try simp only [h10, go_sem, ↓reduceIte])) | ((first | (refine cs_ ?_ ?_ <;> intro hc) | refine cj_ ?_ | simp (disch := omega) only [encs_getN, qb] | refine qa (qma hfa) fun _ => ?_ | refine qa (qrv hft) fun _ => ?_) <;> (try refine ev_ ?_)) | with_reducible exact ti_)
 all_goals try (exfalso; omega)
 ·repeat' (first | refine vs_ ?_ | ((first | refine vr_ ?_ | refine qa qj9 fun _ => ?_ | (refine cs_ ?_ ?_ <;> intro hc) | refine cj_ ?_ | simp (disch := omega) only [encs_getN, qb]) <;> (try refine ev_ ?_)) | with_reducible exact ti_)
 ·repeat' (first | refine vs_ ?_ | ((first | refine vr_ ?_ | refine qur ha2 (by omega) hnS ?_ | refine qa hR1 fun _ => ?_ | (refine cs_ ?_ ?_ <;> intro hc) | refine cj_ ?_ | simp (disch := omega) only [encs_getN, qb]) <;> (try refine ev_ ?_)) | with_reducible exact ti_)
  repeat' (first | refine vs_ ?_ | ((first | refine vr_ ?_ | refine qc0 1 hAS (hby _) hb1 ?_ | refine qa hRA fun _ => ?_ | (refine cs_ ?_ ?_ <;> intro hc) | refine cj_ ?_ | simp (disch := omega) only [encs_getN, qb]) <;> (try refine ev_ ?_)) | with_reducible exact ti_)
  refine ql (S := Nat) (fun i => i ≤ vars.length) (fun i => (⟨[(2, .sl 1 (ints vars)), (7, .ptr 1 0), (8, .sl 4 (qi S)), (9, .ptr 2 0), (10, .int .i64 X.2), (11, .ptr 3 0), (12, .int .i64 X.2), (13, .int .i64 i)], []⟩, [.blk (yc ty), subE S, .blk (yc X.1), .blk (yc X.1)])) (fun i => vars.length - i) ?_ fun i hi => ?_
  ·refine qj 0 [0, 1, 2, 3] (Nat.zero_le _) rfl (by simp) ?_ ?_ ?_ <;> (try refine ev_ ?_) <;> (try with_reducible exact ti_) <;> (try simp (disch := omega) only [qb, and_true, true_and])
  ·by_cases hlt : i < vars.length
   ·have hp := qhd hlt
    have hG := qks hS.1 (by omega) (vars.getD i 0)
    have hRG := qe3 S (vars.getD i 0)
    obtain ⟨u, c, hu⟩ : ∃ u c, getV S (vars.getD i 0) = .tup [encY u, .bool c] := ⟨_, _, rfl⟩
    have hga : getA S (vars.getD i 0) = getV S (vars.getD i 0) := by
     rw [getA, getV]
     cases qu (vars.getD i 0) S <;> rfl
    rw [hga] at hRG
    rw [hu] at hG hRG
    have hgb : AV.bd 0 (.tup [encY u, .bool c]) = true := by rw [← hu]; exact qua 0 _ _
    repeat' (first | refine vs_ ?_ | ((first | refine vr_ ?_ | fail) <;> (try simp (disch := first | omega | (simp only [List.length_set, List.length_append, List.length_cons, List.length_nil]; done) | (simp only [List.length_set, List.length_append, List.length_cons, List.length_nil]; omega)) only [hp, qb, go_sem, ↓reduceIte])) | ((first | simp (disch := omega) only [hp] | (refine cs_ ?_ ?_ <;> intro hc) | refine cj_ ?_ | simp (disch := omega) only [encs_getN, qb] | refine qc0 1 hG rfl hgb ?_) <;> (try refine ev_ ?_)) | with_reducible exact ti_)
    repeat' (first | refine vs_ ?_ | ((first | refine vr_ ?_ | fail) <;> (try simp (disch := first | omega | (simp only [List.length_set, List.length_append, List.length_cons, List.length_nil]; done) | (simp only [List.length_set, List.length_append, List.length_cons, List.length_nil]; omega)) only [hp, qb, go_sem, ↓reduceIte])) | ((first | simp (disch := omega) only [hp] | (refine cs_ ?_ ?_ <;> intro hc) | refine cj_ ?_ | simp (disch := omega) only [encs_getN, qb] | refine qa hRG fun _ => ?_ | refine qa (ql2 u) fun _ => ?_) <;> (try refine ev_ ?_)) | with_reducible exact ti_)
    ·exfalso; revert hc; simp
    ·refine qj (i + 1) [0, 1, 2, 3] ⟨by omega, by omega⟩ rfl (by simp) ?_ ?_ ?_ <;> (try refine ev_ ?_) <;> (try with_reducible exact ti_) <;> (try simp (disch := omega) only [qb, and_true, true_and])
    ·exfalso; omega
   ·have hie : i = vars.length := by omega
    subst hie
    have hPS := qcb (s := S) (by omega) (qdg hS)
    have hrS := qlt S
    have hW := qpn hS vars
    have hWl := qhw vars S
    have hRW := qk0 (s := S) (by omega) vars
    obtain ⟨W, hWn⟩ : ∃ W, qb9 vars S = W := ⟨_, rfl⟩
    rw [hWn] at hW hWl hRW
    have hPW := qcb (s := W) (by omega) (qdg hW)
    have hrW := qlt W
    have hbS : AV.bd 0 (.sl 4 (qi S)) = true := by simp only [AV.bd, q8]
    have hbW : AV.bd 0 (.sl 4 (qi W)) = true := by simp only [AV.bd, q8]
    repeat' (first | refine vs_ ?_ | ((first | refine vr_ ?_ | refine qc0 1 hPS rfl hbS ?_ | refine qa hrS fun _ => ?_ | (refine cs_ ?_ ?_ <;> intro hc) | refine cj_ ?_ | simp (disch := omega) only [encs_getN, qb]) <;> (try refine ev_ ?_)) | with_reducible exact ti_)
    all_goals try (exfalso; omega)
    repeat' (first | refine vs_ ?_ | ((first | refine vr_ ?_ | refine qa (ql2 _) fun _ => ?_ | (refine cs_ ?_ ?_ <;> intro hc) | refine cj_ ?_ | simp (disch := omega) only [encs_getN, qb]) <;> (try refine ev_ ?_)) | with_reducible exact ti_)
    repeat' (first | refine vs_ ?_ | ((first | refine vr_ ?_ | refine qmt 1 hS (by omega) vars hWn ?_ | (refine cs_ ?_ ?_ <;> intro hc) | refine cj_ ?_ | simp (disch := omega) only [encs_getN, qb]) <;> (try refine ev_ ?_)) | with_reducible exact ti_)
    repeat' (first | refine vs_ ?_ | ((first | refine vr_ ?_ | refine qc0 4 hPW rfl hbW ?_ | refine qa hRW fun _ => ?_ | refine qa hrW fun _ => ?_ | refine qa qj9 fun _ => ?_ | (refine cs_ ?_ ?_ <;> intro hc) | refine cj_ ?_ | simp (disch := omega) only [encs_getN, qb]) <;> (try refine ev_ ?_)) | with_reducible exact ti_)
end Go.Proofs.Ytfpobiheiloamaa
