/- Texts of this proof, joined. -/
import Derived.Test.YtfpobiheiloamaaGbc
import Derived.Test.YtfpobiheiloamaaGbd
import Derived.Test.YtfpobiheiloamaaGaw

/- substitutions: new ones, types and their pairs -/
set_option maxRecDepth 4000
namespace Go.Proofs.Ytfpobiheiloamaa
open Go Go.RowKit Go.V
set_option linter.unusedVariables false
set_option linter.unusedSimpArgs false

theorem qga {l : List Pr} {i : Nat} (h : i < l.length) : l.take (i + 1) = l.take i ++ [l.getD i R0] := by
 rw [List.take_add_one, List.getD_eq_getElem?_getD, List.getElem?_eq_getElem h]; rfl
def smlR (l : List Pr) : Prop := ∀ p ∈ l, szY p.ty ≤ 20000 ∧ dpY p.ty ≤ 300
theorem qmk {l : List Pr} (hs : smlR l) (hl : l.length ≤ 100000) : VCalls Try.prog 33 [] [.sl 4 (qo l)] fun H' o => H' = [subE (newR l)] ∧ o = .val (.ptr 0 0) := by
 refine qp c0bk 1 (by simp) (by simp) ?_
 repeat' (first | refine vs_ ?_ | ((first | refine vr_ ?_ | (refine cs_ ?_ ?_ <;> intro hc) | refine cj_ ?_ | simp (disch := omega) only [encs_getN, qb]) <;> (try refine ev_ ?_)) | with_reducible exact ti_)
 refine q8m 0 rfl rfl ?_
 refine qk (S := Nat) (fun i => i ≤ l.length) (fun i => (⟨[(3, .ptr 0 0), (8, .sl 4 (qo l)), (9, .int .i64 l.length), (10, .int .i64 i)], []⟩, [subE (newR (l.take i))])) (fun i => l.length - i) ?_ fun i hi => ?_
 ·refine qh 0 [0] (Nat.zero_le _) rfl (by simp) ?_ ?_ ?_ <;> simp only [List.take_zero, newR, addR, qg5] <;> (try refine ev_ ?_) <;> (try with_reducible exact ti_) <;> (try simp (disch := omega) only [qb, and_true, true_and])
  all_goals rfl
 ·by_cases hlt : i < l.length
  ·have hok := qkc (l.take i)
   have hln := qpk (l.take i)
   rw [List.length_take] at hln
   have hm := hs _ (qcb hlt)
   have hn : newR (l.take (i + 1)) = (setR (newR (l.take i)) (l.getD i R0).v (l.getD i R0).ty).1 := by rw [qga hlt, newR, qii]; rfl
   have hp := qj hlt
   repeat' (first | refine vs_ ?_ | ((first | refine vr_ ?_ | fail) <;> (try simp (disch := first | omega | (simp only [List.length_set, List.length_append, List.length_cons, List.length_nil]; done) | (simp only [List.length_set, List.length_append, List.length_cons, List.length_nil]; omega)) only [hp, qb, go_sem, ↓reduceIte])) | ((first | simp (disch := omega) only [hp] | (refine cs_ ?_ ?_ <;> intro hc) | refine cj_ ?_ | simp (disch := omega) only [encs_getN, qb] | refine qco 0 (qep hok.1 (by omega) _ hm.1 hm.2) ?_) <;> (try refine ev_ ?_)) | with_reducible exact ti_)
   ·refine qh (i + 1) [0] ⟨by omega, by omega⟩ rfl (by simp) ?_ ?_ ?_ <;> simp only [hn] <;> (try refine ev_ ?_) <;> (try with_reducible exact ti_) <;> (try simp (disch := omega) only [qb, and_true, true_and])
    all_goals rw [qw (by omega) (by omega), Int.natCast_add]; rfl
   ·exfalso; omega
  ·have hie : i = l.length := by omega
   subst hie
   rw [List.take_length]
   repeat' (first | refine vs_ ?_ | ((first | refine vr_ ?_ | (refine cs_ ?_ ?_ <;> intro hc) | refine cj_ ?_ | simp (disch := omega) only [encs_getN, qb]) <;> (try refine ev_ ?_)) | with_reducible exact ti_)
   all_goals (exfalso; omega)
set_option maxRecDepth 4000

theorem qk0 {R : World → (Nat → Nat → Prop) → Gh → Prop} {b : Bool} {s : List Pr} (hG : ∀ v, VM Try.prog 37 (.cus R) (.cus R) [svA b 0, .int .i64 v] (getV s v)) (hs : okS s) {t : Ty} (h1 : szY t ≤ 20000) (h2 : dpY t ≤ 300) :
 VM Try.prog 35 (.cus R) (.cus R) [svA b 0, encY t] (typA (appR s t)) := by
 refine qp c0bj 1 (by simp) (by simp) ?_
 have hLg := qc3 h1 h2
 rw [← qbai hs]
 by_cases hlg : qs t = true
 ·obtain ⟨q1, q2, q3⟩ := (qbg t).1 hlg
  have hput := q75 hG (qnj hs) t (qcl t q3) h1 4096 1 (by omega) (by omega) (by omega) (by omega)
  rw [hlg] at hLg
  by_cases hn : (bput s t 4096 1).1 < 0
  ·have hnd : decide ((bput s t 4096 1).1 < 0) = true := decide_eq_true hn
   rw [appP, if_pos hlg, if_pos hn]
   repeat' (first | refine vs_ ?_ | ((first | refine vr_ ?_ | fail) <;> (try simp only [hnd, go_sem, ↓reduceIte])) | ((first | (refine cs_ ?_ ?_ <;> intro hc) | refine cj_ ?_ | fail | refine qa hLg fun _ => ?_ | refine qob 3 0 hput (by simp) ?_) <;> (try refine ev_ ?_)) | with_reducible exact ti_)
   all_goals rfl
  ·have hnd : decide ((bput s t 4096 1).1 < 0) = false := decide_eq_false hn
   rw [appP, if_pos hlg, if_neg hn]
   repeat' (first | refine vs_ ?_ | ((first | refine vr_ ?_ | fail) <;> (try simp only [hnd, go_sem, ↓reduceIte])) | ((first | (refine cs_ ?_ ?_ <;> intro hc) | refine cj_ ?_ | fail | refine qa hLg fun _ => ?_ | refine qob 3 0 hput (by simp) ?_) <;> (try refine ev_ ?_)) | with_reducible exact ti_)
   all_goals rfl
 ·rw [appP, if_neg hlg]
  have hlg : qs t = false := by simpa using hlg
  rw [hlg] at hLg
  repeat' (first | refine vs_ ?_ | ((first | refine vr_ ?_ | refine qa hLg fun _ => ?_ | (refine cs_ ?_ ?_ <;> intro hc) | refine cj_ ?_ | fail) <;> (try refine ev_ ?_)) | with_reducible exact ti_)
  all_goals rfl
set_option maxRecDepth 4000

def zR : AV := .agg [.int .i64 0, .str [], .int .i64 0, .nils]
def cpR (l : List Pr) (i : Nat) : List AV := qo (l.take i) ++ List.replicate (l.length - i) zR
theorem q1q {l : List Pr} {i : Nat} (h : i ≤ l.length) : (cpR l i).length = l.length := by
 rw [cpR, List.length_append, qb3, List.length_take, List.length_replicate]; omega
theorem qbg2 (l : List Pr) : cpR l 0 = List.replicate l.length zR := by rw [cpR, List.take_zero, qum, Nat.sub_zero]; rfl
theorem q8v (l : List Pr) : cpR l l.length = qo l := by rw [cpR, List.take_length, Nat.sub_self, List.replicate_zero, List.append_nil]
theorem qse {l : List Pr} {i : Nat} (h : i < l.length) : (cpR l i).set i (encR (l.getD i R0)) = cpR l (i + 1) := by
 have h2 : (qo (l.take i)).length = i := by rw [qb3, List.length_take]; omega
 obtain ⟨k, hk⟩ : ∃ k, l.length - i = k + 1 := ⟨l.length - i - 1, by omega⟩
 have hk2 : l.length - (i + 1) = k := by omega
 rw [cpR, cpR, hk, hk2, List.replicate_succ, qga h, ← qqq, List.set_append_right _ _ (by omega), h2, Nat.sub_self, List.set_cons_zero, List.append_assoc]
 rfl
theorem qp2 (k : Nat) (l : List Pr) (i : Nat) : AV.bds k (cpR l i) = true := by
 rw [cpR, qgd, qbi, qc8]
 simp [zR, AV.bd, AV.bds]
theorem qn3 (σ : Nat → Nat) (l : List Pr) (i : Nat) : AV.rens σ (cpR l i) = cpR l i := ql (m := 0) (fun i hi => by omega) _ (qp2 0 l i)
attribute [go_sem] qp2 qn3
theorem qrz : VCalls Try.prog 41 [.blk [.nils]] [.ptr 0 0] (qd5 fun H' o => H' = [subE []] ∧ o = .val (.sl 4 (qo []))) := by
 refine qp c0bi 1 (by simp) (by simp) ?_
 repeat' (first | refine vs_ ?_ | ((first | refine vr_ ?_ | (refine cs_ ?_ ?_ <;> intro hc) | refine cj_ ?_ | simp (disch := omega) only [encs_getN, qb]) <;> (try refine ev_ ?_)) | with_reducible exact ti_)
 refine qk (S := Unit) (fun _ => True) (fun _ => (⟨[(3, .row 1 0), (18, .int .i64 (0 : Nat)), (19, .int .i64 (0 : Nat))], []⟩, [.blk [.nils], .mrow 4 []])) (fun _ => 0) ?_ fun x hx => ?_
 ·refine qh () [0, 1] trivial rfl (by simp) ?_ ?_ ?_ <;> (try refine ev_ ?_) <;> (try with_reducible exact ti_) <;> (try simp (disch := omega) only [qb, and_true, true_and])
  all_goals rfl
 ·refine qd8 1 rfl (fun v hv => by simp at hv) ?_
  repeat' (first | refine vs_ ?_ | ((first | refine vr_ ?_ | (refine cs_ ?_ ?_ <;> intro hc) | refine cj_ ?_ | simp (disch := omega) only [encs_getN, qb]) <;> (try refine ev_ ?_)) | with_reducible exact ti_)
  ·exact absurd hc (by omega)
  ·exact qer rfl (by simp) rfl ⟨rfl, rfl⟩
theorem qz4 {s : List Pr} (hs : s ≠ []) (hl : s.length ≤ 100000) (ho : smlR s) : VCalls Try.prog 41 [.blk [.row 1 s.length], qbp s] [.ptr 0 0] (qd5 fun H' o => H' = [subE s] ∧ o = .val (.sl 4 (qo s))) := by
 refine qp c0bi 2 (by simp) (by simp) ?_
 repeat' (first | refine vs_ ?_ | ((first | refine vr_ ?_ | (refine cs_ ?_ ?_ <;> intro hc) | refine cj_ ?_ | simp (disch := omega) only [encs_getN, qb]) <;> (try refine ev_ ?_)) | with_reducible exact ti_)
 have hm : s.length ≤ maxLen := by unfold maxLen; omega
 refine ⟨hm, ⟨by omega, by omega⟩, ?_⟩
 repeat' (first | refine vs_ ?_ | ((first | refine vr_ ?_ | (refine cs_ ?_ ?_ <;> intro hc) | refine cj_ ?_ | simp (disch := omega) only [encs_getN, qb]) <;> (try refine ev_ ?_)) | with_reducible exact ti_)
 refine qk (S := Nat) (fun i => i ≤ s.length) (fun i => (⟨[(3, .row 2 s.length), (17, .row 1 s.length), (18, .int .i64 s.length), (19, .int .i64 i)], []⟩, [.blk [.row 1 s.length], qbp s, .mrow 4 (cpR s i)])) (fun i => s.length - i) ?_ fun i hi => ?_
 ·refine qh 0 [0, 1, 2] (Nat.zero_le _) rfl (by simp) ?_ ?_ ?_ <;> simp only [qbg2, zR] <;> (try refine ev_ ?_) <;> (try with_reducible exact ti_) <;> (try simp (disch := omega) only [qb, and_true, true_and])
  all_goals
   rw [show List.replicate s.length (AV.agg [AV.int .i64 0, AV.str [], AV.int .i64 0, AV.nils]) = cpR s 0 from (qbg2 _).symm]
   exact ⟨qp2 _ _ _, by rw [qn3]⟩
 ·by_cases hlt : i < s.length
  ·have hp := qj hlt
   have hc := q1q hi
   have hcp := qcz (s.getD i R0).ty (by have := (ho _ (qcb hlt)).1; omega)
   repeat' (first | refine vs_ ?_ | ((first | refine vr_ ?_ | fail) <;> (try simp (disch := first | omega | (simp only [List.length_set, List.length_append, List.length_cons, List.length_nil]; done) | (simp only [List.length_set, List.length_append, List.length_cons, List.length_nil]; omega)) only [hp, qb, go_sem, ↓reduceIte])) | ((first | simp (disch := omega) only [hp] | (refine cs_ ?_ ?_ <;> intro hc) | refine cj_ ?_ | simp (disch := omega) only [encs_getN, qb] | refine qa hcp fun _ => ?_ | refine qc hcp ?_) <;> (try refine ev_ ?_)) | with_reducible exact ti_)
   ·refine qh (i + 1) [0, 1, 2] ⟨by omega, by omega⟩ rfl (by simp) ?_ ?_ ?_ <;> simp only [← qse hlt] <;> (try refine ev_ ?_) <;> (try with_reducible exact ti_) <;> (try simp (disch := omega) only [qb, and_true, true_and])
    all_goals (rw [qse hlt]; exact ⟨qp2 _ _ _, by rw [qn3]⟩)
   ·exfalso; omega
  ·have hie : i = s.length := by omega
   subst hie
   rw [q8v]
   refine qd8 2 rfl (qi8 _) ?_
   repeat' (first | refine vs_ ?_ | ((first | refine vr_ ?_ | (refine cs_ ?_ ?_ <;> intro hc) | refine cj_ ?_ | simp (disch := omega) only [encs_getN, qb]) <;> (try refine ev_ ?_)) | with_reducible exact ti_)
   all_goals try (exfalso; omega)
   all_goals exact qct 1 hs rfl rfl (by simp) (by simp) (by simp [AV.bd, qbi]) ⟨rfl, rfl⟩
theorem qdd {s : List Pr} (hl : s.length ≤ 100000) (ho : smlR s) : VM Try.prog 41 (subE s) (subE s) [.ptr 0 0] (.sl 4 (qo s)) := by
 by_cases hs : s = []
 ·subst hs
  exact qjt (by rw [qg5]; exact qrz) rfl
 ·exact qjt (by have := qz4 hs hl ho; rwa [← qkt hs] at this) rfl
set_option maxRecDepth 4000

section
variable {P : Program} {f : FuncId} {e : Ent} {L : List Ent} {args : List AV} {Q : List Ent → VO → Prop}
theorem qg1 (h : VCalls P f [] args fun H' o => H' = [e] ∧ o = .val (.ptr 0 0)) (hb : e.bd 0 = true) (ha : AV.bds 0 args = true) (hq : Q (L ++ [e]) (.val (.ptr L.length 0))) : VApp P L (.fn f [] []) args Q := by
 refine qws h ha fun H1 o ho => ?_
 obtain ⟨rfl, rfl⟩ := ho
 have e1 : qgt L [] [e] = L ++ [e] := by
  show L ++ [e.ren _] = _
  rw [Ent.ren_bd0 hb]
 rw [e1]
 exact hq
end
theorem qeu {s : List Pr} (h : okS s) : smlR s := fun p hp => by
 have := (qbg _).1 (h.2 p hp)
 omega
theorem qkg : VCalls Try.prog 33 [] [.sl 4 []] fun H' o => H' = [subE []] ∧ o = .val (.ptr 0 0) := qmk (l := []) (fun p hp => by simp at hp) (by simp)
theorem q76 {s : List Pr} (ho : risR s) {i : Nat} (h : i < s.length) : ∀ p ∈ s.take i, p.v < (s.getD i R0).v := fun p hp => by
 obtain ⟨j, hj⟩ := List.mem_iff_getElem?.1 hp
 have hjl := (List.getElem?_eq_some_iff.1 hj).1
 rw [List.length_take] at hjl
 rw [List.getElem?_take] at hj
 split at hj
 ·have := qo1 ho j i (by omega) h
  rw [List.getD_eq_getElem?_getD, hj] at this
  exact this
 ·cases hj
theorem qs0 {vars : List Int} {s : List Pr} (ho : okS s) {i : Nat} (h : i < s.length) (hv : (s.getD i R0).v ∈ vars) : (setR (qdr vars (s.take i)) (s.getD i R0).v (s.getD i R0).ty).1 = qdr vars (s.take (i + 1)) := by
 rw [qjo vars h, if_pos hv, qp1 (ho.2 _ (qcb h))]
 exact fun p hp => q76 ho.1 h p (List.mem_filter.1 hp).1
theorem qzh {s : List Pr} (ho : risR s) (i : Nat) : risR (s.take i) := by
 induction s generalizing i with
 | nil => simp; exact trivial
 | cons p r ih =>
   cases i with
   | zero => exact trivial
   | succ i => exact ⟨fun q hq => ho.1 q (List.mem_of_mem_take hq), ih ho.2 i⟩
theorem qq5 {s : List Pr} (hs : okS s) (hl : s.length ≤ 40000) (vars : List Int) : VCalls Try.prog 42 [subE s] [.ptr 0 0, .sl 1 (ints vars)] fun H' o => H' = [subE s, subE (qdr vars s)] ∧ o = .val (.ptr 1 0) := by
 refine qp c0bh 2 (by simp) (by simp) ?_
 repeat' (first | refine vs_ ?_ | ((first | refine vr_ ?_ | refine qg1 qkg rfl rfl ?_ | refine qco 0 (qdd (by omega) (qeu hs)) ?_ | (refine cs_ ?_ ?_ <;> intro hc) | refine cj_ ?_ | simp (disch := omega) only [encs_getN, qb]) <;> (try refine ev_ ?_)) | with_reducible exact ti_)
 refine qk (S := Nat) (fun i => i ≤ s.length) (fun i => (⟨[(1, .sl 1 (ints vars)), (5, .ptr 1 0), (10, .sl 4 (qo s)), (11, .int .i64 s.length), (12, .int .i64 i)], []⟩, [subE s, subE (qdr vars (s.take i))])) (fun i => s.length - i) ?_ fun i hi => ?_
 ·refine qh 0 [0, 1] (Nat.zero_le _) rfl (by simp) ?_ ?_ ?_ <;> simp only [List.take_zero, qdr, List.filter_nil] <;> (try refine ev_ ?_) <;> (try with_reducible exact ti_) <;> (try simp (disch := omega) only [qb, and_true, true_and])
 ·by_cases hlt : i < s.length
  ·have hp := qj hlt
   have hm := qeu hs _ (qcb hlt)
   have hwl := qss vars (s.take i)
   rw [List.length_take] at hwl
   have hris : risR (qdr vars (s.take i)) := qej _ (qzh hs.1 i)
   by_cases hv : (s.getD i R0).v ∈ vars
   ·have hn := qs0 hs hlt hv
    have hvd : decide ((s.getD i R0).v ∈ vars) = true := decide_eq_true hv
    repeat' (first | refine vs_ ?_ | ((first | refine vr_ ?_ | fail) <;> (try simp (disch := first | omega | (simp only [List.length_set, List.length_append, List.length_cons, List.length_nil]; done) | (simp only [List.length_set, List.length_append, List.length_cons, List.length_nil]; omega)) only [hp, qb, hvd, go_sem, ↓reduceIte])) | ((first | simp (disch := omega) only [hp] | simp (disch := omega) only [hvd] | (refine cs_ ?_ ?_ <;> intro hc) | refine cj_ ?_ | simp (disch := omega) only [encs_getN, qb] | refine qa (qea vars _) fun _ => ?_ | refine qco 1 (qep hris (by omega) _ hm.1 hm.2) ?_) <;> (try refine ev_ ?_)) | with_reducible exact ti_)
    ·refine qh (i + 1) [0, 1] ⟨by omega, by omega⟩ rfl (by simp) ?_ ?_ ?_ <;> simp only [hn] <;> (try refine ev_ ?_) <;> (try with_reducible exact ti_) <;> (try simp (disch := omega) only [qb, and_true, true_and])
     all_goals rw [qw (by omega) (by omega), Int.natCast_add]; rfl
    ·exfalso; omega
   ·have hn := qjo vars hlt
    rw [if_neg hv, List.append_nil] at hn
    have hvd : decide ((s.getD i R0).v ∈ vars) = false := decide_eq_false hv
    repeat' (first | refine vs_ ?_ | ((first | refine vr_ ?_ | fail) <;> (try simp (disch := first | omega | (simp only [List.length_set, List.length_append, List.length_cons, List.length_nil]; done) | (simp only [List.length_set, List.length_append, List.length_cons, List.length_nil]; omega)) only [hp, qb, hvd, go_sem, ↓reduceIte])) | ((first | simp (disch := omega) only [hp] | simp (disch := omega) only [hvd] | (refine cs_ ?_ ?_ <;> intro hc) | refine cj_ ?_ | simp (disch := omega) only [encs_getN, qb] | refine qa (qea vars _) fun _ => ?_) <;> (try refine ev_ ?_)) | with_reducible exact ti_)
    ·refine qh (i + 1) [0, 1] ⟨by omega, by omega⟩ rfl (by simp) ?_ ?_ ?_ <;> simp only [hn] <;> (try refine ev_ ?_) <;> (try with_reducible exact ti_) <;> (try simp (disch := omega) only [qb, and_true, true_and])
     all_goals rw [qw (by omega) (by omega), Int.natCast_add]; rfl
    ·exfalso; omega
  ·have hie : i = s.length := by omega
   subst hie
   rw [List.take_length]
   repeat' (first | refine vs_ ?_ | ((first | refine vr_ ?_ | (refine cs_ ?_ ?_ <;> intro hc) | refine cj_ ?_ | simp (disch := omega) only [encs_getN, qb]) <;> (try refine ev_ ?_)) | with_reducible exact ti_)
   all_goals (exfalso; omega)
set_option maxRecDepth 4000

theorem qhl (t : List Pr) (b : List Pr) : ∀ (a acc : List Pr), (qbe t acc a).2 = 0 → qbe t acc (a ++ b) = qbe t (qbe t acc a).1 b
 | [], acc, _ => rfl
 | p :: r, acc, h => by
   rw [qbe] at h
   rw [List.cons_append, qbe, qbe]
   split at h
   ·rename_i h0
    rw [if_pos h0, if_pos h0, qhl t b r _ h]
   ·rename_i h0
    exact absurd h h0
theorem qkr {t : List Pr} : ∀ (a : List Pr) {acc : List Pr}, okS acc → okS (qbe t acc a).1
 | [], _, h => h
 | p :: r, acc, h => by
   rw [qbe]
   split
   ·exact qkr r (qng h _ _)
   ·exact qg9
theorem qid (t : List Pr) : ∀ (a acc : List Pr), (qbe t acc a).1.length ≤ acc.length + a.length
 | [], acc => by simp [qbe]
 | p :: r, acc => by
   rw [qbe, List.length_cons]
   split
   ·have h1 := qid t r (setR acc p.v (appR t p.ty).1).1
    have h2 := qoy acc p.v (appR t p.ty).1
    omega
   ·simp
theorem q7p {s t : List Pr} (hs : okS s) (ht : okS t) : behR s t = if (qbe t [] s).2 = 0 then (addR (qbe t [] s).1 t, 0) else ([], (qbe t [] s).2) := by
 rw [behR, ← qon ht s [] hs.1 (fun p hp => by simp at hp)]
theorem qyx {s t : List Pr} {i : Nat} (h : i < s.length) (h0 : (qbe t [] (s.take i)).2 = 0) : qbe t [] s = qbe t (qbe t [] (s.take i)).1 (s.getD i R0 :: s.drop (i + 1)) := by
 have := qhl t (s.drop i) (s.take i) [] h0
 rwa [List.take_append_drop, qbde h] at this
theorem qo8 {s t : List Pr} {i : Nat} (h : i < s.length) (h0 : (qbe t [] (s.take i)).2 = 0) (ha : (appR t (s.getD i R0).ty).2 = 0) : qbe t [] (s.take (i + 1)) = ((setR (qbe t [] (s.take i)).1 (s.getD i R0).v (appR t (s.getD i R0).ty).1).1, 0) := by
 rw [qga h, qhl t _ _ _ h0, qbe, if_pos ha, qbe]
theorem qjc {s t : List Pr} {i : Nat} (h : i < s.length) (h0 : (qbe t [] (s.take i)).2 = 0) (ha : (appR t (s.getD i R0).ty).2 ≠ 0) : qbe t [] s = ([], (appR t (s.getD i R0).ty).2) := by
 rw [qyx h h0, qbe, if_neg ha]
def newQ (L : List Ent) (p : List Pr × Int) (H' : List Ent) (o : VO) : Prop :=
 if p.2 = 0 then H' = L ++ [subE p.1] ∧ o = .val (.tup [.ptr L.length 0, .int .i64 0]) else H' = L ∧ o = .val (.tup [.nilp, .int .i64 p.2])
theorem qzc {s t : List Pr} (hs : okS s) (ht : okS t) (h1 : s.length ≤ 40000) (h2 : t.length ≤ 40000) : VCalls Try.prog 46 [subE s, subE t] [.ptr 0 0, .ptr 1 0] (newQ [subE s, subE t] (behR s t)) := by
 have hms := qeu hs
 have hmt := qeu ht
 have hA : ∀ ty, szY ty ≤ 20000 → dpY ty ≤ 300 → VM Try.prog 35 (subE t) (subE t) [.ptr 0 0, encY ty] (typA (appR t ty)) := fun ty q1 q2 => qk0 (b := true) (R := bunR (subH t)) (fun v => qnz ht.1 (by omega) v) ht q1 q2
 have hstep : ∀ i, i < s.length → (qbe t [] (s.take i)).2 = 0 → risR (qbe t [] (s.take i)).1 ∧ (qbe t [] (s.take i)).1.length ≤ 40000 := fun i hi h0 => by
  have := qid t (s.take i) []
  rw [List.length_take] at this
  exact ⟨(qkr (s.take i) qg9).1, by simp at this; omega⟩
 have hap : ∀ i, i < s.length → (appR t (s.getD i R0).ty).2 = 0 → szY (appR t (s.getD i R0).ty).1 ≤ 20000 ∧ dpY (appR t (s.getD i R0).ty).1 ≤ 300 := fun i hi h0 => by
  obtain ⟨_, q2, q3⟩ := qf3 ht h0
  rw [q3]
  have := (qbg _).1 q2
  omega
 rw [q7p hs ht]
 by_cases he : (qbe t [] s).2 = 0
 ·rw [if_pos he]
  refine qp c0bg 3 (by simp) (by simp) ?_
  repeat' (first | refine vs_ ?_ | ((first | refine vr_ ?_ | refine qg1 qkg rfl rfl ?_ | refine qco 0 (qdd (by omega) hms) ?_ | (refine cs_ ?_ ?_ <;> intro hc) | refine cj_ ?_ | simp (disch := omega) only [encs_getN, qb]) <;> (try refine ev_ ?_)) | with_reducible exact ti_)
  refine qk (S := Nat) (fun i => i ≤ s.length ∧ (qbe t [] (s.take i)).2 = 0) (fun i => (⟨[(1, .ptr 1 0), (6, .ptr 2 0), (15, .sl 4 (qo s)), (16, .int .i64 s.length), (17, .int .i64 i)], []⟩, [subE s, subE t, subE (qbe t [] (s.take i)).1])) (fun i => s.length - i) ?_ fun i hi => ?_
  ·refine qh 0 [0, 1, 2] ⟨Nat.zero_le _, rfl⟩ rfl (by simp) ?_ ?_ ?_ <;> simp only [List.take_zero, qbe] <;> (try refine ev_ ?_) <;> (try with_reducible exact ti_) <;> (try simp (disch := omega) only [qb, and_true, true_and])
  ·obtain ⟨hi, h0⟩ := hi
   by_cases hlt : i < s.length
   ·have hp := qj hlt
    have hm := hms _ (qcb hlt)
    obtain ⟨a1, a2⟩ := hstep i hlt h0
    by_cases ha : (appR t (s.getD i R0).ty).2 = 0
    ·obtain ⟨b1, b2⟩ := hap i hlt ha
     have hn := qo8 hlt h0 ha
     have hT : typA (appR t (s.getD i R0).ty) = .tup [encY (appR t (s.getD i R0).ty).1, .int .i64 0] := by rw [typA, ha]
     repeat' (first | refine vs_ ?_ | ((first | refine vr_ ?_ | fail) <;> (try simp (disch := first | omega | (simp only [List.length_set, List.length_append, List.length_cons, List.length_nil]; done) | (simp only [List.length_set, List.length_append, List.length_cons, List.length_nil]; omega)) only [hp, qb, go_sem, ↓reduceIte])) | ((first | simp (disch := omega) only [hp] | simp (disch := omega) only [hT] | (refine cs_ ?_ ?_ <;> intro hc) | refine cj_ ?_ | simp (disch := omega) only [encs_getN, qb] | refine qco 1 (hA _ hm.1 hm.2) ?_ rfl rfl (by simp) rfl (qhg 0 _) | refine qco 2 (qep a1 (by omega) _ b1 b2) ?_) <;> (try refine ev_ ?_)) | with_reducible exact ti_)
     ·refine qh (i + 1) [0, 1, 2] ⟨⟨by omega, by rw [hn]⟩, by omega⟩ rfl (by simp) ?_ ?_ ?_ <;> simp only [hn] <;> (try refine ev_ ?_) <;> (try with_reducible exact ti_) <;> (try simp (disch := omega) only [qb, and_true, true_and])
      all_goals rw [qw (by omega) (by omega), Int.natCast_add]; rfl
     ·exfalso; omega
    ·exact absurd (by rw [qjc hlt h0 ha] at he; exact he) ha
   ·have hie : i = s.length := by omega
    subst hie
    rw [List.take_length]
    have hok : okS (qbe t [] s).1 := qkr s qg9
    have hln := qid t s []
    simp only [List.length_nil, Nat.zero_add] at hln
    repeat' (first | refine vs_ ?_ | ((first | refine vr_ ?_ | refine qco 1 (qdd (by omega) hmt) ?_ | (refine cs_ ?_ ?_ <;> intro hc) | refine cj_ ?_ | simp (disch := omega) only [encs_getN, qb]) <;> (try refine ev_ ?_)) | with_reducible exact ti_)
    ·exfalso; omega
    ·generalize (qbe t [] s).1 = a at hok hln ⊢
     refine qk (S := Nat) (fun i => i ≤ t.length) (fun i => (⟨[(6, .ptr 2 0), (38, .sl 4 (qo t)), (39, .int .i64 t.length), (40, .int .i64 i)], []⟩, [subE s, subE t, subE (addR a (t.take i))])) (fun i => t.length - i) ?_ fun i hi => ?_
     ·refine qh 0 [0, 1, 2] (Nat.zero_le _) rfl (by simp) ?_ ?_ ?_ <;> simp only [List.take_zero, addR] <;> (try refine ev_ ?_) <;> (try with_reducible exact ti_) <;> (try simp (disch := omega) only [qb, and_true, true_and])
     ·by_cases hlt : i < t.length
      ·have hp := qj hlt
       have hm := hmt _ (qcb hlt)
       have hq := qki (t.take i) hok
       have hql := qg3 (t.take i) a
       rw [List.length_take] at hql
       have hn := ql7 hlt a
       repeat' (first | refine vs_ ?_ | ((first | refine vr_ ?_ | fail) <;> (try simp (disch := first | omega | (simp only [List.length_set, List.length_append, List.length_cons, List.length_nil]; done) | (simp only [List.length_set, List.length_append, List.length_cons, List.length_nil]; omega)) only [hp, qb, go_sem, ↓reduceIte])) | ((first | simp (disch := omega) only [hp] | (refine cs_ ?_ ?_ <;> intro hc) | refine cj_ ?_ | simp (disch := omega) only [encs_getN, qb] | refine qco 2 (qep hq.1 (by omega) _ hm.1 hm.2) ?_) <;> (try refine ev_ ?_)) | with_reducible exact ti_)
       ·refine qh (i + 1) [0, 1, 2] ⟨by omega, by omega⟩ rfl (by simp) ?_ ?_ ?_ <;> simp only [hn] <;> (try refine ev_ ?_) <;> (try with_reducible exact ti_) <;> (try simp (disch := omega) only [qb, and_true, true_and])
        all_goals rw [qw (by omega) (by omega), Int.natCast_add]; rfl
      ·have hie : i = t.length := by omega
       subst hie
       rw [List.take_length]
       repeat' (first | refine vs_ ?_ | ((first | refine vr_ ?_ | (refine cs_ ?_ ?_ <;> intro hc) | refine cj_ ?_ | simp (disch := omega) only [encs_getN, qb]) <;> (try refine ev_ ?_)) | with_reducible exact ti_)
       all_goals try (exfalso; omega)
       all_goals
        rw [newQ, if_pos rfl]
        exact ⟨rfl, rfl⟩
 ·rw [if_neg he]
  refine qp c0bg 2 (by simp) (by simp) ?_
  repeat' (first | refine vs_ ?_ | ((first | refine vr_ ?_ | refine qg1 qkg rfl rfl ?_ | refine qco 0 (qdd (by omega) hms) ?_ | (refine cs_ ?_ ?_ <;> intro hc) | refine cj_ ?_ | simp (disch := omega) only [encs_getN, qb]) <;> (try refine ev_ ?_)) | with_reducible exact ti_)
  refine qk (S := Nat) (fun i => i ≤ s.length ∧ (qbe t [] (s.take i)).2 = 0) (fun i => (⟨[(1, .ptr 1 0), (6, .ptr 2 0), (15, .sl 4 (qo s)), (16, .int .i64 s.length), (17, .int .i64 i)], []⟩, [subE s, subE t, subE (qbe t [] (s.take i)).1])) (fun i => s.length - i) ?_ fun i hi => ?_
  ·refine qh 0 [0, 1, 2] ⟨Nat.zero_le _, rfl⟩ rfl (by simp) ?_ ?_ ?_ <;> simp only [List.take_zero, qbe] <;> (try refine ev_ ?_) <;> (try with_reducible exact ti_) <;> (try simp (disch := omega) only [qb, and_true, true_and])
  ·obtain ⟨hi, h0⟩ := hi
   have hlt : i < s.length := by
    by_cases hlt : i < s.length
    ·exact hlt
    ·rw [List.take_of_length_le (by omega)] at h0
     exact absurd h0 he
   have hp := qj hlt
   have hm := hms _ (qcb hlt)
   obtain ⟨a1, a2⟩ := hstep i hlt h0
   by_cases ha : (appR t (s.getD i R0).ty).2 = 0
   ·obtain ⟨b1, b2⟩ := hap i hlt ha
    have hn := qo8 hlt h0 ha
    have hT : typA (appR t (s.getD i R0).ty) = .tup [encY (appR t (s.getD i R0).ty).1, .int .i64 0] := by rw [typA, ha]
    repeat' (first | refine vs_ ?_ | ((first | refine vr_ ?_ | fail) <;> (try simp (disch := first | omega | (simp only [List.length_set, List.length_append, List.length_cons, List.length_nil]; done) | (simp only [List.length_set, List.length_append, List.length_cons, List.length_nil]; omega)) only [hp, qb, go_sem, ↓reduceIte])) | ((first | simp (disch := omega) only [hp] | simp (disch := omega) only [hT] | (refine cs_ ?_ ?_ <;> intro hc) | refine cj_ ?_ | simp (disch := omega) only [encs_getN, qb] | refine qco 1 (hA _ hm.1 hm.2) ?_ rfl rfl (by simp) rfl (qhg 0 _) | refine qco 2 (qep a1 (by omega) _ b1 b2) ?_) <;> (try refine ev_ ?_)) | with_reducible exact ti_)
    ·refine qh (i + 1) [0, 1, 2] ⟨⟨by omega, by rw [hn]⟩, by omega⟩ rfl (by simp) ?_ ?_ ?_ <;> simp only [hn] <;> (try refine ev_ ?_) <;> (try with_reducible exact ti_) <;> (try simp (disch := omega) only [qb, and_true, true_and])
     all_goals rw [qw (by omega) (by omega), Int.natCast_add]; rfl
    ·exfalso; omega
   ·have hT : typA (appR t (s.getD i R0).ty) = .tup [encY (appR t (s.getD i R0).ty).1, .int .i64 (appR t (s.getD i R0).ty).2] := rfl
    have had : decide ((appR t (s.getD i R0).ty).2 = 0) = false := decide_eq_false ha
    rw [qjc hlt h0 ha]
    repeat' (first | refine vs_ ?_ | ((first | refine vr_ ?_ | fail) <;> (try simp (disch := first | omega | (simp only [List.length_set, List.length_append, List.length_cons, List.length_nil]; done) | (simp only [List.length_set, List.length_append, List.length_cons, List.length_nil]; omega)) only [hp, qb, had, go_sem, ↓reduceIte])) | ((first | simp (disch := omega) only [hp] | simp (disch := omega) only [hT] | (refine cs_ ?_ ?_ <;> intro hc) | refine cj_ ?_ | simp (disch := omega) only [encs_getN, qb] | refine qco 1 (hA _ hm.1 hm.2) ?_ rfl rfl (by simp) rfl (qhg 0 _)) <;> (try refine ev_ ?_)) | with_reducible exact ti_)
    all_goals try (exfalso; omega)
    all_goals
     rw [newQ, if_neg ha]
     exact ⟨rfl, rfl⟩
set_option maxRecDepth 4000

def fewR (l : List Pr) : Bool := decide (l.length ≤ 30) && qdp (l.map Pr.ty)
theorem qio (l : List Pr) (i : Nat) (h : i < l.length) : (l.map Pr.ty).take (i + 1) = (l.map Pr.ty).take i ++ [(l.getD i R0).ty] := by
 rw [List.take_add_one, List.getElem?_map, List.getElem?_eq_getElem h, List.getD_eq_getElem?_getD, List.getElem?_eq_getElem h]; rfl
def qlh (l : List Pr) (i : Nat) : AF × List Ent := (⟨[(0, .sl 4 (qo l)), (3, accV 0 (qq ((l.map Pr.ty).take i))), (4, .int .i64 i)], []⟩, accE 3 (qq ((l.map Pr.ty).take i)))
theorem qbh9 (l : List Pr) : qn Try.prog 30 [.sl 4 (qo l)] (.int .i64 (if fewR l = true then 1 else 0)) := by
 refine qe c0bf (by simp) (by simp only [go_sem]) rfl fun hw => ?_
 have hl := (qfl hw.1).1
 repeat' (first | refine vs_ ?_ | ((first | refine vr_ ?_ | (refine cs_ ?_ ?_ <;> intro hc) | refine cj_ ?_ | simp (disch := omega) only [encs_getN, qb]) <;> (try refine ev_ ?_)) | with_reducible exact ti_)
 ·rw [if_neg (by simp [fewR]; omega)]
 have h30 : l.length ≤ 30 := by omega
 refine qk (S := Nat) (fun i => i ≤ l.length) (qlh l) (fun i => l.length - i) ?_ fun i hi => ?_
 ·refine qh 0 [] (Nat.zero_le _) rfl (by simp) ?_ ?_ ?_ <;> simp only [qlh, List.take_zero, qde, qbk, qbj] <;> (try refine ev_ ?_) <;> (try with_reducible exact ti_) <;> (try simp (disch := omega) only [qb, and_true, true_and])
 ·have hfin : fewR l = qdp (l.map Pr.ty) := by rw [fewR, decide_eq_true h30, Bool.true_and]
  have hlm : ((l.map Pr.ty).take i).length = i := by rw [List.length_take, List.length_map]; omega
  have hcap : qce (i + 1) 48 = True := eq_true (capY (by omega))
  unfold qlh
  by_cases hlt : i < l.length
  ·have hs := qio l i hlt
   by_cases h0 : i = 0
   ·subst h0
    simp only [List.take_zero, qde, qbk, qbj]
    repeat' (first | refine vs_ ?_ | ((first | refine vr_ ?_ | fail) <;> (try simp (disch := first | omega | (simp only [List.length_set, List.length_append, List.length_cons, List.length_nil]; done) | (simp only [List.length_set, List.length_append, List.length_cons, List.length_nil]; omega)) only [qj, qb, qdg, go_sem, ↓reduceIte])) | ((first | simp (disch := omega) only [qj] | simp (disch := omega) only [qdg] | simp (disch := omega) only [(show qce 1 48 = True from eq_true (capY (by omega)))] | (refine cs_ ?_ ?_ <;> intro hc) | refine cj_ ?_ | simp (disch := omega) only [encs_getN, qb]) <;> (try refine ev_ ?_)) | with_reducible exact ti_)
    ·refine qh 1 [0] ⟨by omega, by omega⟩ rfl (by simp) ?_ ?_ ?_ <;> simp only [qlh, hs, List.take_zero, List.nil_append, ← qrb, qfe, qe4] <;> (try refine ev_ ?_) <;> (try with_reducible exact ti_) <;> (try simp (disch := omega) only [qb, and_true, true_and])
     all_goals (rw [qf4])
    ·omega
   ·have hne : (l.map Pr.ty).take i ≠ [] := fun h => h0 (by rw [← hlm, h]; rfl)
    simp only [qcu (qg6 hne), qcq (qg6 hne), q7, hlm]
    repeat' (first | refine vs_ ?_ | ((first | refine vr_ ?_ | fail) <;> (try simp (disch := first | omega | (simp only [List.length_set, List.length_append, List.length_cons, List.length_nil]; done) | (simp only [List.length_set, List.length_append, List.length_cons, List.length_nil]; omega)) only [qj, qb, qdg, q7, hlm, go_sem, ↓reduceIte])) | ((first | simp (disch := omega) only [qj] | simp (disch := omega) only [qdg] | simp (disch := omega) only [hcap] | (refine cs_ ?_ ?_ <;> intro hc) | refine cj_ ?_ | simp (disch := omega) only [encs_getN, qb]) <;> (try refine ev_ ?_)) | with_reducible exact ti_)
    ·have hl2 : qq ((l.map Pr.ty).take (i + 1)) = qq ((l.map Pr.ty).take i) ++ [encY (l.getD i R0).ty] := by rw [hs, qfw]
     refine qh (i + 1) [1] ⟨by omega, by omega⟩ rfl (by simp) ?_ ?_ ?_ <;> simp only [qlh, hl2, qd6, qdt, q7, hlm] <;> (try refine ev_ ?_) <;> (try with_reducible exact ti_) <;> (try simp (disch := omega) only [qb, and_true, true_and])
     all_goals (simp only [qfw]; exact ⟨qb9 _ _, by rw [qia]⟩)
    ·omega
  ·have hend : (l.map Pr.ty).take i = l.map Pr.ty := List.take_of_length_le (by rw [List.length_map]; omega)
   have hf := q57 (l.map Pr.ty)
   rw [hend, hfin]
   by_cases h0 : l.map Pr.ty = []
   ·rw [h0] at hf ⊢
    simp only [qde, qbk, qbj]
    repeat' (first | refine vs_ ?_ | ((first | refine vr_ ?_ | fail) <;> (try simp only [q6, go_sem, ↓reduceIte])) | ((first | (refine cs_ ?_ ?_ <;> intro hc) | refine cj_ ?_ | simp (disch := omega) only [encs_getN, qb] | refine qa hf fun _ => ?_) <;> (try refine ev_ ?_)) | with_reducible exact ti_)
    all_goals omega
   ·simp only [qcu (qg6 h0), qcq (qg6 h0), q7]
    repeat' (first | refine vs_ ?_ | ((first | refine vr_ ?_ | fail) <;> (try simp only [q7, go_sem, ↓reduceIte])) | ((first | (refine cs_ ?_ ?_ <;> intro hc) | refine cj_ ?_ | simp (disch := omega) only [encs_getN, qb] | refine qa hf fun _ => ?_) <;> (try refine ev_ ?_)) | with_reducible exact ti_)
    all_goals omega
set_option maxRecDepth 4000

theorem qx0 {l : List Pr} (hl : l.length ≤ maxLen) (h : fewR l = true) : l.length ≤ 30 ∧ smlR l := by
 rw [fewR, Bool.and_eq_true, decide_eq_true_eq] at h
 refine ⟨h.1, fun p hp => ?_⟩
 have := qt8 (l := l.map Pr.ty) (by rw [List.length_map]; exact hl) h.2
 have hm : p.ty ∈ l.map Pr.ty := List.mem_map_of_mem hp
 have h1 := qes hm
 have h2 := qn9 hm
 omega
section
variable {L : List Ent} {Q : List Ent → VO → Prop} {s t : List Pr}
theorem q8e {l : List Pr} (hs : smlR l) (hl : l.length ≤ 100000) (hq : Q (L ++ [subE (newR l)]) (.val (.ptr L.length 0))) : VApp Try.prog L (.fn 33 [] []) [.sl 4 (qo l)] Q :=
 qg1 (qmk hs hl) rfl (by simp only [AV.bds, AV.bd, qbi, Bool.and_true]) hq
theorem qrn (a : Nat) (hs : okS s) (hl : s.length ≤ 40000) (vars : List Int) (hq : Q (L ++ [subE (qdr vars s)]) (.val (.ptr L.length 0))) (h0 : ent L a = subE s := by rfl) (ha : a < L.length := by simp) : VApp Try.prog L (.fn 42 [] []) [.ptr a 0, .sl 1 (ints vars)] Q := by
 refine qc6 ?_
 rw [List.nil_append, List.append_nil]
 refine qb4 [a] (qq5 hs hl vars) (by simp) ⟨⟨ha, rfl, by rw [h0]; rfl⟩, trivial⟩ (by simp only [AV.bds, AV.bd, qn4, Bool.and_true]; rfl) (by simp only [AV.rens, AV.ren, qpi]; rfl) fun H1 o ho => ?_
 obtain ⟨rfl, rfl⟩ := ho
 have e1 : qgt L [a] [subE s, subE (qdr vars s)] = L ++ [subE (qdr vars s)] := by
  show (L.set a (subE s)) ++ [subE (qdr vars s)] = _
  rw [qdl h0 ha]
 rw [e1]
 simp only [VO.ren, AV.ren]
 show Q _ (.val (.ptr (L.length + (1 - 1)) 0))
 exact hq
theorem qzz (a b : Nat) (hs : okS s) (ht : okS t) (h1 : s.length ≤ 40000) (h2 : t.length ≤ 40000) (hab : a ≠ b) (hq : if (behR s t).2 = 0 then Q (L ++ [subE (behR s t).1]) (.val (.tup [.ptr L.length 0, .int .i64 0])) else Q L (.val (.tup [.nilp, .int .i64 (behR s t).2])))
 (h0 : ent L a = subE s := by rfl) (h0' : ent L b = subE t := by rfl) (ha : a < L.length := by simp) (hb : b < L.length := by simp) : VApp Try.prog L (.fn 46 [] []) [.ptr a 0, .ptr b 0] Q := by
 refine qc6 ?_
 rw [List.nil_append, List.append_nil]
 refine qb4 [a, b] (qzc hs ht h1 h2) (by simp [hab]) ⟨⟨ha, rfl, by rw [h0]; rfl⟩, ⟨hb, rfl, by rw [h0']; rfl⟩, trivial⟩ rfl (by rfl) fun H1 o ho => ?_
 have e0 : (L.set a (subE s)).set b (subE t) = L := by
  rw [qdl h0 ha, qdl h0' hb]
 rw [newQ] at ho
 split at ho
 ·rename_i he
  rw [if_pos he] at hq
  obtain ⟨rfl, rfl⟩ := ho
  have e1 : qgt L [a, b] ([subE s, subE t] ++ [subE (behR s t).1]) = L ++ [subE (behR s t).1] := by
   show ((L.set a (subE s)).set b (subE t)) ++ [subE (behR s t).1] = _
   rw [e0]
  rw [e1]
  show Q _ (.val (.tup [.ptr (L.length + (2 - 2)) 0, .int .i64 0]))
  exact hq
 ·rename_i he
  rw [if_neg he] at hq
  obtain ⟨rfl, rfl⟩ := ho
  have e1 : qgt L [a, b] [subE s, subE t] = L := by
   show ((L.set a (subE s)).set b (subE t)) ++ [] = _
   rw [e0, List.append_nil]
  rw [e1]
  exact hq
theorem qcp {f : FuncId} {e e' : Ent} {rest : List AV} {r : AV} (i : Nat) (h : VM Try.prog f e e' (.ptr 0 0 :: rest) r) (hrest : AV.bds 0 rest = true) (hr : r.bd 0 = true) (hq : Q (L.set i e') (.val r)) (hb : e.bd 0 = true := by rfl) (hb' : e'.bd 0 = true := by rfl) (hi : i < L.length := by simp) (he : ent L i = e := by rfl) :
 VApp Try.prog L (.fn f [] []) (.ptr i 0 :: rest) Q := by
 refine qco i h hq hb hb' hi he hr ?_ ?_
 ·rw [List.append_nil, AV.rens, ql (m := 0) (fun j hj => by omega) rest hrest]; rfl
 ·rw [AV.bds, Bool.and_eq_true]
  exact ⟨rfl, qca (Nat.zero_le _) _ hrest⟩
theorem qs8 {l : List Pr} (hs : smlR l) (hl : l.length ≤ 100000) (e : newR l = s) (hq : Q (L ++ [subE s]) (.val (.ptr L.length 0))) : VApp Try.prog L (.fn 33 [] []) [.sl 4 (qo l)] Q := by
 subst e; exact q8e hs hl hq
theorem qui (a : Nat) (hs : okS s) (hl : s.length ≤ 40000) (vars : List Int) (e : qdr vars s = t) (hq : Q (L ++ [subE t]) (.val (.ptr L.length 0))) (h0 : ent L a = subE s := by rfl) (ha : a < L.length := by simp) : VApp Try.prog L (.fn 42 [] []) [.ptr a 0, .sl 1 (ints vars)] Q := by
 subst e; exact qrn a hs hl vars hq h0 ha
theorem qbaq (a b : Nat) {r : List Pr} (hs : okS s) (ht : okS t) (h1 : s.length ≤ 40000) (h2 : t.length ≤ 40000) (hab : a ≠ b) (he : behR s t = (r, 0)) (hq : Q (L ++ [subE r]) (.val (.tup [.ptr L.length 0, .int .i64 0])))
 (h0 : ent L a = subE s := by rfl) (h0' : ent L b = subE t := by rfl) (ha : a < L.length := by simp) (hb : b < L.length := by simp) : VApp Try.prog L (.fn 46 [] []) [.ptr a 0, .ptr b 0] Q := by
 refine qzz a b hs ht h1 h2 hab ?_ h0 h0' ha hb
 rw [he, if_pos rfl]
 exact hq
theorem qph (hs : okS s) (hl : s.length ≤ 100000) {ty : Ty} (q1 : szY ty ≤ 20000) (q2 : dpY ty ≤ 300) : VM Try.prog 35 (subE s) (subE s) [.ptr 0 0, encY ty] (typA (appR s ty)) :=
 qk0 (b := true) (R := bunR (subH s)) (fun v => qnz hs.1 hl v) hs q1 q2
end
def wT : Ty := ⟨[84], 0, []⟩
def wU : Ty := ⟨[85], 0, []⟩
def wV : Ty := ⟨[86], 0, []⟩
def wB : Ty := ⟨[], 1, []⟩
def wF : Ty := ⟨[45, 62], 0, [Y0, wB]⟩
def wR : Ty := ⟨[45, 62], 0, [wT, wB]⟩
def S1 : List Pr := [⟨0, wT⟩]
def S2 : List Pr := [⟨0, wT⟩, ⟨1, Y0⟩]
def S3 : List Pr := [⟨0, wV⟩]
def S4 : List Pr := [⟨0, wT⟩, ⟨1, wV⟩]
theorem w1 : newR [⟨0, wT⟩, ⟨0, wU⟩] = S1 := by rfl
theorem w3 : newR [⟨0, wV⟩] = S3 := by rfl
theorem S1_ok : okS S1 := w1 ▸ qkc _
theorem q02 : okS S3 := w3 ▸ qkc _
theorem w2 : setR S1 1 Y0 = (S2, 0) := by rfl
theorem qsn : okS S2 := by have := qng S1_ok 1 Y0; rwa [w2] at this
theorem w4 : behR S2 S3 = (S4, 0) := by rfl
theorem S4_ok : okS S4 := by have := q4x qsn q02; rwa [w4] at this
theorem k0 : VM Try.prog 35 (subE S1) (subE S1) [.ptr 0 0, encY wF] (.tup [encY wR, .int .i64 0]) := qph S1_ok (by decide) (ty := wF) (by decide) (by decide)
theorem k1 : VM Try.prog 45 (subE S1) (subE S1) [.ptr 0 0, .int .i64 0, encY wT] (.int .i64 6) := qep S1_ok.1 (by decide) 0 (t := wT) (by decide) (by decide)
theorem k2 : VM Try.prog 45 (subE S1) (subE S2) [.ptr 0 0, .int .i64 1, encY Y0] (.int .i64 0) := qep S1_ok.1 (by decide) 1 (t := Y0) (by decide) (by decide)
theorem k4 : VM Try.prog 37 (subE S4) (subE S4) [.ptr 0 0, .int .i64 1] (.tup [encY wV, .bool true]) := qnz S4_ok.1 (by decide) 1
theorem k5 : VM Try.prog 41 (subE S2) (subE S2) [.ptr 0 0] (.sl 4 (qo S2)) := qdd (by decide) (qeu qsn)
theorem w6 : qdr [1] S2 = [⟨1, Y0⟩] := by rfl
theorem k6 : VM Try.prog 41 (subE [⟨1, Y0⟩]) (subE [⟨1, Y0⟩]) [.ptr 0 0] (.sl 4 (qo [⟨1, Y0⟩])) := qdd (by decide) (qeu (by have := qw1 qsn [1]; rwa [w6] at this))
theorem k7 : qn Try.prog 75 [encY wR] (.str [84, 32, 45, 62, 32, 98]) := qq2 (t := wR) (by decide) (by decide) (by decide)
theorem qd2 : qn Try.prog 32 [] (.bool true) := by
 refine qe c0be (by simp) rfl rfl fun hw => ?_
 have hv : wV.con = [86] := rfl
 have hl2 : (S2.length : Int) = 2 := rfl
 have hl1 : (([⟨1, Y0⟩] : List Pr).length : Int) = 1 := rfl
 repeat' (first | refine vs_ ?_ | ((first | refine vr_ ?_ | fail) <;> (try simp only [hv, hl2, hl1, go_sem, ↓reduceIte])) | ((first | (refine cs_ ?_ ?_ <;> intro hc) | refine cj_ ?_ | fail | refine qs8 (l := [⟨0, wT⟩, ⟨0, wU⟩]) (fun p hp => by simp at hp; rcases hp with rfl | rfl <;> simp [wT, wU, szY, szYs, dpY, dpYs]) (by simp) w1 ?_ | refine qs8 (l := [⟨0, wV⟩]) (qeu q02) (by simp) w3 ?_ | refine qcp 1 k0 rfl rfl ?_ | refine qcp 1 k1 rfl rfl ?_ | refine qcp 1 k2 rfl rfl ?_ | refine qbaq 1 3 qsn q02 (by decide) (by decide) (by decide) w4 ?_ | refine qcp 4 k4 rfl rfl ?_) <;> (try refine ev_ ?_)) | with_reducible exact ti_)
 repeat' (first | refine vs_ ?_ | ((first | refine vr_ ?_ | fail) <;> (try simp only [hv, hl2, hl1, go_sem, ↓reduceIte])) | ((first | (refine cs_ ?_ ?_ <;> intro hc) | refine cj_ ?_ | fail | refine qa k7 fun _ => ?_) <;> (try refine ev_ ?_)) | with_reducible exact ti_)
 repeat' (first | refine vs_ ?_ | ((first | refine vr_ ?_ | fail) <;> (try simp only [hl2, hl1, go_sem, ↓reduceIte])) | ((first | (refine cs_ ?_ ?_ <;> intro hc) | refine cj_ ?_ | fail | refine qcp 1 k5 rfl (by rfl) ?_) <;> (try refine ev_ ?_)) | with_reducible exact ti_)
 ·repeat' (first | refine vs_ ?_ | ((first | refine vr_ ?_ | refine qui 1 qsn (by decide) [1] w6 ?_ | (refine cs_ ?_ ?_ <;> intro hc) | refine cj_ ?_ | fail) <;> (try refine ev_ ?_)) | with_reducible exact ti_)
  repeat' (first | refine vs_ ?_ | ((first | refine vr_ ?_ | refine qcp 6 k6 rfl (by rfl) ?_ | (refine cs_ ?_ ?_ <;> intro hc) | refine cj_ ?_ | fail) <;> (try refine ev_ ?_)) | with_reducible exact ti_)
 ·exact absurd hl2 hc
set_option maxRecDepth 4000

mutual
theorem qi5 : ∀ t, qfo t t = true
 | .mk c v l => by rw [qfo, qhw l]; simp
theorem qhw : ∀ l, qz l l = true
 | [] => by rw [qz]
 | x :: r => by rw [qz, qi5 x, qhw r]; rfl
end
theorem qlf (t : Ty) : qn Try.prog 39 [encY t, encY t] (.bool true) := qdk (qq4 t t) (by rw [qi5])
theorem qmf {l : List Pr} (h : fewR l = true) : qn Try.prog 30 [.sl 4 (qo l)] (.int .i64 1) := qdk (qbh9 l) (by rw [h]; rfl)
theorem qoh {l : List Pr} (h : fewR l = false) : qn Try.prog 30 [.sl 4 (qo l)] (.int .i64 0) := qdk (qbh9 l) (by rw [h]; rfl)
theorem qlr {l : List Ty} (h : qdp l = true) : qn Try.prog 31 [.sl 3 (qq l)] (.int .i64 1) := qdk (q57 l) (by rw [h]; rfl)
theorem qpv {l : List Ty} (h : qdp l = false) : qn Try.prog 31 [.sl 3 (qq l)] (.int .i64 0) := qdk (q57 l) (by rw [h]; rfl)
theorem qsi {t : Ty} (h : qdp [t] = true) : szY t ≤ 20000 ∧ dpY t ≤ 300 := by
 have := qt8 (l := [t]) (by unfold maxLen; simp) h
 have h1 := qes (l := [t]) (x := t) (by simp)
 have h2 := qn9 (l := [t]) (x := t) (by simp)
 omega
set_option maxRecDepth 4000

theorem qt2 {l : List Pr} (h : smlR l) : q0i l := h
set_option maxRecDepth 4000

set_option maxRecDepth 4000

set_option maxRecDepth 4000

set_option maxRecDepth 4000

def prdR (s : List Pr) : List Pd → List Pd → List Pd × Int
 | acc, [] => (acc, 0)
 | acc, p :: r => if (appR s p.ty).2 = 0 then prdR s (acc ++ [⟨p.cls, (appR s p.ty).1⟩]) r else ([], (appR s p.ty).2)
theorem qj6 (s : List Pr) (b : List Pd) : ∀ (a acc : List Pd), (prdR s acc a).2 = 0 → prdR s acc (a ++ b) = prdR s (prdR s acc a).1 b
 | [], acc, _ => rfl
 | p :: r, acc, h => by
   rw [prdR] at h
   rw [List.cons_append, prdR, prdR]
   split at h
   ·rename_i h0
    rw [if_pos h0, if_pos h0, qj6 s b r _ h]
   ·rename_i h0
    exact absurd h h0
theorem qkv (s : List Pr) : ∀ (a acc : List Pd), (prdR s acc a).2 = 0 → (prdR s acc a).1.length = acc.length + a.length
 | [], acc, _ => by simp [prdR]
 | p :: r, acc, h => by
   rw [prdR] at h ⊢
   split at h
   ·rename_i h0
    rw [if_pos h0, qkv s r _ h, List.length_append, List.length_cons, List.length_cons]
    simp; omega
   ·rename_i h0
    exact absurd h h0
theorem qrg {l : List Pd} {i : Nat} (h : i < l.length) : l.take (i + 1) = l.take i ++ [l.getD i P0] := by
 rw [List.take_add_one, List.getD_eq_getElem?_getD, List.getElem?_eq_getElem h]; rfl
theorem qvi {s : List Pr} {l : List Pd} {i : Nat} (h : i < l.length) (h0 : (prdR s [] (l.take i)).2 = 0) (ha : (appR s (l.getD i P0).ty).2 = 0) : prdR s [] (l.take (i + 1)) = ((prdR s [] (l.take i)).1 ++ [⟨(l.getD i P0).cls, (appR s (l.getD i P0).ty).1⟩], 0) := by
 rw [qrg h, qj6 s _ _ _ h0, prdR, if_pos ha, prdR]
theorem qmg {s : List Pr} {l : List Pd} {i : Nat} (h : i < l.length) (h0 : (prdR s [] (l.take i)).2 = 0) (ha : (appR s (l.getD i P0).ty).2 ≠ 0) : prdR s [] l = ([], (appR s (l.getD i P0).ty).2) := by
 have := qj6 s (l.drop i) (l.take i) [] h0
 rw [List.take_append_drop, qbjn h] at this
 rw [this, prdR, if_neg ha]
def prdA (p : List Pd × Int) : AV := .tup [.sl 4 (qbh p.1), .int .i64 p.2]
theorem qtl (k : Nat) (p : List Pd × Int) : (prdA p).bd k = true := by simp only [prdA, AV.bd, AV.bds, qcy, Bool.and_true]
def pdSt (s : List Pr) (l : List Pd) (i : Nat) : AF × List Ent :=
 (⟨[(0, .sl 4 (qo s)), (1, .sl 4 (qbh l)), (6, accV 0 (qbh (prdR s [] (l.take i)).1)), (7, .int .i64 i)], []⟩, accE 4 (qbh (prdR s [] (l.take i)).1))
set_option maxHeartbeats 1000000 in
theorem qm7 {s : List Pr} (hs : okS s) {l : List Pd} (hl : l.length ≤ 1000) (hp : ∀ p ∈ l, szY p.ty ≤ 20000 ∧ dpY p.ty ≤ 300) : qn Try.prog 50 [.sl 4 (qo s), .sl 4 (qbh l)] (prdA (prdR s [] l)) := by
 refine qe c0bc (by simp) (by simp only [AV.bds, AV.bd, qbi, qcy, Bool.and_true]) (qtl 0 _) fun hw => ?_
 repeat' (first | refine vs_ ?_ | ((first | refine vr_ ?_ | (refine cs_ ?_ ?_ <;> intro hc) | refine cj_ ?_ | simp (disch := omega) only [encs_getN, qb]) <;> (try refine ev_ ?_)) | with_reducible exact ti_)
 refine qk (S := Nat) (fun i => i ≤ l.length ∧ (prdR s [] (l.take i)).2 = 0) (pdSt s l) (fun i => l.length - i) ?_ fun i hi => ?_
 ·refine qh 0 [] ⟨Nat.zero_le _, rfl⟩ rfl (by simp) ?_ ?_ ?_ <;> simp only [pdSt, List.take_zero, prdR, qcd, qbk, qbj] <;> (try refine ev_ ?_) <;> (try with_reducible exact ti_) <;> (try simp (disch := omega) only [qb, and_true, true_and])
 ·obtain ⟨hi, h0⟩ := hi
  have hal := qkv s (l.take i) [] h0
  rw [List.length_take, List.length_nil, Nat.zero_add, Nat.min_eq_left hi] at hal
  unfold pdSt
  by_cases hlt : i < l.length
  ·have hg := qee hlt
   obtain ⟨m1, m2⟩ := hp _ (qoz hlt)
   have hA := qn6 hs m1 m2
   have hT : typA (appR s (l.getD i P0).ty) = .tup [encY (appR s (l.getD i P0).ty).1, .int .i64 (appR s (l.getD i P0).ty).2] := rfl
   rw [hT] at hA
   by_cases ha : (appR s (l.getD i P0).ty).2 = 0
   ·have hn := qvi hlt h0 ha
    rw [ha] at hA
    obtain ⟨B, hB⟩ : ∃ B, (prdR s [] (l.take i)).1 = B := ⟨_, rfl⟩
    rw [hB] at hn hal ⊢
    by_cases hz : B = []
    ·subst hz
     simp only [qcd, qbk, qbj]
     repeat' (first | refine vs_ ?_ | ((first | refine vr_ ?_ | fail) <;> (try simp (disch := first | omega | (simp only [List.length_set, List.length_append, List.length_cons, List.length_nil]; done) | (simp only [List.length_set, List.length_append, List.length_cons, List.length_nil]; omega)) only [hg, qb, go_sem, ↓reduceIte])) | ((first | simp (disch := omega) only [hg] | simp (disch := omega) only [(show qce 1 64 = True from eq_true (by unfold qce; omega))] | (refine cs_ ?_ ?_ <;> intro hc) | refine cj_ ?_ | simp (disch := omega) only [encs_getN, qb] | refine qa hA fun _ => ?_ | refine qc hA ?_) <;> (try refine ev_ ?_)) | with_reducible exact ti_)
     ·refine qh (i + 1) [1] ⟨⟨by omega, by rw [hn]⟩, by omega⟩ rfl (by simp) ?_ ?_ ?_ <;> simp only [pdSt, hn, List.nil_append, ← qlu, qfe, qe4] <;> (try refine ev_ ?_) <;> (try with_reducible exact ti_) <;> (try simp (disch := omega) only [qb, and_true, true_and])
      ·rfl
      ·rw [qw (by omega) (by omega), Int.natCast_add]; rfl
     ·exfalso; omega
    ·have hne := qeh hz
     simp only [qcu hne, qcq hne, qbb]
     have hcap : qce (B.length + 1) 64 = True := eq_true (by unfold qce; omega)
     repeat' (first | refine vs_ ?_ | ((first | refine vr_ ?_ | fail) <;> (try simp (disch := first | omega | (simp only [List.length_set, List.length_append, List.length_cons, List.length_nil]; done) | (simp only [List.length_set, List.length_append, List.length_cons, List.length_nil]; omega)) only [hg, qb, qbb, go_sem, ↓reduceIte])) | ((first | simp (disch := omega) only [hg] | simp (disch := omega) only [hcap] | (refine cs_ ?_ ?_ <;> intro hc) | refine cj_ ?_ | simp (disch := omega) only [encs_getN, qb] | refine qa hA fun _ => ?_ | refine qc hA ?_) <;> (try refine ev_ ?_)) | with_reducible exact ti_)
     ·refine qh (i + 1) [2] ⟨⟨by omega, by rw [hn]⟩, by omega⟩ rfl (by simp) ?_ ?_ ?_ <;> simp only [pdSt, hn, ← qcm, qd6, qdt, qbb] <;> (try refine ev_ ?_) <;> (try with_reducible exact ti_) <;> (try simp (disch := omega) only [qb, and_true, true_and])
      ·rw [qcm, qha]; exact ⟨qcy _ _, congrArg (Ent.app 4) (qcm B ⟨(l.getD i P0).cls, (appR s (l.getD i P0).ty).1⟩)⟩
      ·rw [qw (by omega) (by omega), Int.natCast_add]; rfl
     ·exfalso; omega
   ·have had : decide ((appR s (l.getD i P0).ty).2 = 0) = false := decide_eq_false ha
    have hstop := qmg hlt h0 ha
    rw [hstop]
    obtain ⟨B, hB⟩ : ∃ B, (prdR s [] (l.take i)).1 = B := ⟨_, rfl⟩
    rw [hB]
    by_cases hz : B = []
    ·subst hz
     simp only [qcd, qbk, qbj]
     repeat' (first | refine vs_ ?_ | ((first | refine vr_ ?_ | fail) <;> (try simp (disch := first | omega | (simp only [List.length_set, List.length_append, List.length_cons, List.length_nil]; done) | (simp only [List.length_set, List.length_append, List.length_cons, List.length_nil]; omega)) only [hg, qb, had, go_sem, ↓reduceIte])) | ((first | simp (disch := omega) only [hg] | (refine cs_ ?_ ?_ <;> intro hc) | refine cj_ ?_ | simp (disch := omega) only [encs_getN, qb] | refine qa hA fun _ => ?_ | refine qc hA ?_) <;> (try refine ev_ ?_)) | with_reducible exact ti_)
     ·rfl
     ·exfalso; omega
    ·have hne := qeh hz
     simp only [qcu hne, qcq hne, qbb]
     repeat' (first | refine vs_ ?_ | ((first | refine vr_ ?_ | fail) <;> (try simp (disch := first | omega | (simp only [List.length_set, List.length_append, List.length_cons, List.length_nil]; done) | (simp only [List.length_set, List.length_append, List.length_cons, List.length_nil]; omega)) only [hg, qb, had, go_sem, ↓reduceIte])) | ((first | simp (disch := omega) only [hg] | (refine cs_ ?_ ?_ <;> intro hc) | refine cj_ ?_ | simp (disch := omega) only [encs_getN, qb] | refine qa hA fun _ => ?_ | refine qc hA ?_) <;> (try refine ev_ ?_)) | with_reducible exact ti_)
     ·rfl
     ·exfalso; omega
  ·have hti : l.take i = l := List.take_of_length_le (by omega)
   rw [hti] at h0 ⊢
   have he : prdR s [] l = ((prdR s [] l).1, 0) := by rw [← h0]
   rw [he]
   generalize (prdR s [] l).1 = B
   by_cases hz : B = []
   ·subst hz
    simp only [qcd, qbk, qbj]
    repeat' (first | refine vs_ ?_ | ((first | refine vr_ ?_ | fail) <;> (try simp only [q6, go_sem, ↓reduceIte])) | ((first | (refine cs_ ?_ ?_ <;> intro hc) | refine cj_ ?_ | simp (disch := omega) only [encs_getN, qb]) <;> (try refine ev_ ?_)) | with_reducible exact ti_)
    ·exfalso; omega
    ·rfl
   ·have hne := qeh hz
    simp only [qcu hne, qcq hne, qbb]
    repeat' (first | refine vs_ ?_ | ((first | refine vr_ ?_ | fail) <;> (try simp only [qbb, go_sem, ↓reduceIte])) | ((first | (refine cs_ ?_ ?_ <;> intro hc) | refine cj_ ?_ | simp (disch := omega) only [encs_getN, qb]) <;> (try refine ev_ ?_)) | with_reducible exact ti_)
    ·exfalso; omega
    ·rfl
def ppSt (s : List Pr) (l : List Pd) (i : Nat) : AF × List Ent :=
 (⟨[(0, .ptr 0 0), (6, accV 1 (qbh (prdR s [] (l.take i)).1)), (11, .sl 4 (qbh l)), (12, .int .i64 l.length), (13, .int .i64 i)], []⟩, subE s :: accE 4 (qbh (prdR s [] (l.take i)).1))
set_option maxHeartbeats 1000000 in
theorem qtf {s : List Pr} (hs : okS s) (hsl : s.length ≤ 100000) {l : List Pd} (hl : l.length ≤ 1000) (hp : ∀ p ∈ l, szY p.ty ≤ 20000 ∧ dpY p.ty ≤ 300) : VM Try.prog 49 (subE s) (subE s) [.ptr 0 0, .sl 4 (qbh l)] (prdA (prdR s [] l)) := by
 refine qp c0bd 1 (by simp) (by simp) ?_
 repeat' (first | refine vs_ ?_ | ((first | refine vr_ ?_ | (refine cs_ ?_ ?_ <;> intro hc) | refine cj_ ?_ | simp (disch := omega) only [encs_getN, qb]) <;> (try refine ev_ ?_)) | with_reducible exact ti_)
 refine qk (S := Nat) (fun i => i ≤ l.length ∧ (prdR s [] (l.take i)).2 = 0) (ppSt s l) (fun i => l.length - i) ?_ fun i hi => ?_
 ·refine qh 0 [0] ⟨Nat.zero_le _, rfl⟩ rfl (by simp) ?_ ?_ ?_ <;> simp only [ppSt, List.take_zero, prdR, qcd, qbk, qbj] <;> (try refine ev_ ?_) <;> (try with_reducible exact ti_) <;> (try simp (disch := omega) only [qb, and_true, true_and])
 ·obtain ⟨hi, h0⟩ := hi
  have hal := qkv s (l.take i) [] h0
  rw [List.length_take, List.length_nil, Nat.zero_add, Nat.min_eq_left hi] at hal
  unfold ppSt
  by_cases hlt : i < l.length
  ·have hg := qee hlt
   obtain ⟨m1, m2⟩ := hp _ (qoz hlt)
   have hby : ∀ t, AV.bds 0 [encY t] = true := fun t => by simp only [AV.bds, qb2, Bool.and_true]
   have hA := qph hs hsl m1 m2
   have hT : typA (appR s (l.getD i P0).ty) = .tup [encY (appR s (l.getD i P0).ty).1, .int .i64 (appR s (l.getD i P0).ty).2] := rfl
   rw [hT] at hA
   have hb1 : AV.bd 0 (.tup [encY (appR s (l.getD i P0).ty).1, .int .i64 (appR s (l.getD i P0).ty).2]) = true := qhg 0 _
   by_cases ha : (appR s (l.getD i P0).ty).2 = 0
   ·have hn := qvi hlt h0 ha
    rw [ha] at hA hb1
    obtain ⟨B, hB⟩ : ∃ B, (prdR s [] (l.take i)).1 = B := ⟨_, rfl⟩
    rw [hB] at hn hal ⊢
    by_cases hz : B = []
    ·subst hz
     simp only [qcd, qbk, qbj]
     repeat' (first | refine vs_ ?_ | ((first | refine vr_ ?_ | fail) <;> (try simp (disch := first | omega | (simp only [List.length_set, List.length_append, List.length_cons, List.length_nil]; done) | (simp only [List.length_set, List.length_append, List.length_cons, List.length_nil]; omega)) only [hg, qb, go_sem, ↓reduceIte])) | ((first | simp (disch := omega) only [hg] | simp (disch := omega) only [(show qce 1 64 = True from eq_true (by unfold qce; omega))] | (refine cs_ ?_ ?_ <;> intro hc) | refine cj_ ?_ | simp (disch := omega) only [encs_getN, qb] | refine qcp 0 hA (hby _) hb1 ?_) <;> (try refine ev_ ?_)) | with_reducible exact ti_)
     ·refine qh (i + 1) [0, 3] ⟨⟨by omega, by rw [hn]⟩, by omega⟩ rfl (by simp) ?_ ?_ ?_ <;> simp only [ppSt, hn, List.nil_append, ← qlu, qfe, qe4] <;> (try refine ev_ ?_) <;> (try with_reducible exact ti_) <;> (try simp (disch := omega) only [qb, and_true, true_and])
      ·rfl
      ·rw [qw (by omega) (by omega), Int.natCast_add]; rfl
     ·exfalso; omega
    ·have hne := qeh hz
     simp only [qcu hne, qcq hne, qbb]
     have hcap : qce (B.length + 1) 64 = True := eq_true (by unfold qce; omega)
     repeat' (first | refine vs_ ?_ | ((first | refine vr_ ?_ | fail) <;> (try simp (disch := first | omega | (simp only [List.length_set, List.length_append, List.length_cons, List.length_nil]; done) | (simp only [List.length_set, List.length_append, List.length_cons, List.length_nil]; omega)) only [hg, qb, qbb, go_sem, ↓reduceIte])) | ((first | simp (disch := omega) only [hg] | simp (disch := omega) only [hcap] | (refine cs_ ?_ ?_ <;> intro hc) | refine cj_ ?_ | simp (disch := omega) only [encs_getN, qb] | refine qcp 0 hA (hby _) hb1 ?_) <;> (try refine ev_ ?_)) | with_reducible exact ti_)
     ·refine qh (i + 1) [0, 4] ⟨⟨by omega, by rw [hn]⟩, by omega⟩ rfl (by simp) ?_ ?_ ?_ <;> simp only [ppSt, hn, ← qcm, qd6, qdt, qbb] <;> (try refine ev_ ?_) <;> (try with_reducible exact ti_) <;> (try simp (disch := omega) only [qb, and_true, true_and])
      ·rw [qcm, qha]; exact ⟨qcy _ _, congrArg (Ent.app 4) (qcm B ⟨(l.getD i P0).cls, (appR s (l.getD i P0).ty).1⟩)⟩
      ·rw [qw (by omega) (by omega), Int.natCast_add]; rfl
     ·exfalso; omega
   ·have had : decide ((appR s (l.getD i P0).ty).2 = 0) = false := decide_eq_false ha
    have hstop := qmg hlt h0 ha
    rw [hstop]
    obtain ⟨B, hB⟩ : ∃ B, (prdR s [] (l.take i)).1 = B := ⟨_, rfl⟩
    rw [hB]
    by_cases hz : B = []
    ·subst hz
     simp only [qcd, qbk, qbj]
     repeat' (first | refine vs_ ?_ | ((first | refine vr_ ?_ | fail) <;> (try simp (disch := first | omega | (simp only [List.length_set, List.length_append, List.length_cons, List.length_nil]; done) | (simp only [List.length_set, List.length_append, List.length_cons, List.length_nil]; omega)) only [hg, qb, had, go_sem, ↓reduceIte])) | ((first | simp (disch := omega) only [hg] | (refine cs_ ?_ ?_ <;> intro hc) | refine cj_ ?_ | simp (disch := omega) only [encs_getN, qb] | refine qcp 0 hA (hby _) hb1 ?_) <;> (try refine ev_ ?_)) | with_reducible exact ti_)
     ·rfl
     ·exfalso; omega
    ·have hne := qeh hz
     simp only [qcu hne, qcq hne, qbb]
     repeat' (first | refine vs_ ?_ | ((first | refine vr_ ?_ | fail) <;> (try simp (disch := first | omega | (simp only [List.length_set, List.length_append, List.length_cons, List.length_nil]; done) | (simp only [List.length_set, List.length_append, List.length_cons, List.length_nil]; omega)) only [hg, qb, had, go_sem, ↓reduceIte])) | ((first | simp (disch := omega) only [hg] | (refine cs_ ?_ ?_ <;> intro hc) | refine cj_ ?_ | simp (disch := omega) only [encs_getN, qb] | refine qcp 0 hA (hby _) hb1 ?_) <;> (try refine ev_ ?_)) | with_reducible exact ti_)
     ·rfl
     ·exfalso; omega
  ·have hti : l.take i = l := List.take_of_length_le (by omega)
   rw [hti] at h0 ⊢
   have he : prdR s [] l = ((prdR s [] l).1, 0) := by rw [← h0]
   rw [he]
   generalize (prdR s [] l).1 = B
   by_cases hz : B = []
   ·subst hz
    simp only [qcd, qbk, qbj]
    repeat' (first | refine vs_ ?_ | ((first | refine vr_ ?_ | fail) <;> (try simp only [q6, go_sem, ↓reduceIte])) | ((first | (refine cs_ ?_ ?_ <;> intro hc) | refine cj_ ?_ | simp (disch := omega) only [encs_getN, qb]) <;> (try refine ev_ ?_)) | with_reducible exact ti_)
    ·exfalso; omega
    ·rfl
   ·have hne := qeh hz
    simp only [qcu hne, qcq hne, qbb]
    repeat' (first | refine vs_ ?_ | ((first | refine vr_ ?_ | fail) <;> (try simp only [qbb, go_sem, ↓reduceIte])) | ((first | (refine cs_ ?_ ?_ <;> intro hc) | refine cj_ ?_ | simp (disch := omega) only [encs_getN, qb]) <;> (try refine ev_ ?_)) | with_reducible exact ti_)
    ·exfalso; omega
    ·rfl
set_option maxRecDepth 4000

theorem qu9 (s : List Pr) : ∀ (a acc : List Pd), (prdR s acc a).1.length ≤ acc.length + a.length
 | [], acc => by simp [prdR]
 | p :: r, acc => by
   rw [prdR]
   split
   ·have := qu9 s r (acc ++ [⟨p.cls, (appR s p.ty).1⟩])
    rw [List.length_append] at this
    simp only [List.length_cons, List.length_nil] at this ⊢
    omega
   ·simp
set_option maxHeartbeats 2000000 in
theorem quw (a : List Pr) (l : List Pd) : qn Try.prog 10 [.sl 4 (qo a), .sl 4 (qbh l)] (.bool true) := by
 refine qe c0bb (by simp) (by simp only [AV.bds, AV.bd, qbi, qcy, Bool.and_true]) rfl fun hw => ?_
 have hla := (qfl hw.1).1
 have hll := (qzk hw.2.1).1
 have h10 : decide ((1 : Int) = 0) = false := rfl
 by_cases hfa : fewR a = true
 case neg =>
  have hfa : fewR a = false := by simpa using hfa
  repeat' (first | refine vs_ ?_ | ((first | refine vr_ ?_ | refine qa (qoh hfa) fun _ => ?_ | refine qa qd2 fun _ => ?_ | refine qc (qoh hfa) ?_ | refine qc qd2 ?_ | (refine cs_ ?_ ?_ <;> intro hc) | refine cj_ ?_ | simp (disch := omega) only [encs_getN, qb]) <;> (try refine ev_ ?_)) | with_reducible exact ti_)
 obtain ⟨ha1, ha2⟩ := qx0 hla hfa
 have hS := qkc a
 have hSl := qpk a
 have hR1 := quq (l := a) (by omega) (qt2 ha2)
 obtain ⟨S, hnS⟩ : ∃ S, newR a = S := ⟨_, rfl⟩
 rw [hnS] at hS hSl hR1
 repeat' (first | refine vs_ ?_ | ((first | refine vr_ ?_ | fail) <;> (try simp only [h10, go_sem, ↓reduceIte])) | ((first | (refine cs_ ?_ ?_ <;> intro hc) | refine cj_ ?_ | simp (disch := omega) only [encs_getN, qb] | refine qa (qmf hfa) fun _ => ?_ | refine qc (qmf hfa) ?_) <;> (try refine ev_ ?_)) | with_reducible exact ti_)
 all_goals try (exfalso; omega)
 ·repeat' (first | refine vs_ ?_ | ((first | refine vr_ ?_ | refine qa qd2 fun _ => ?_ | refine qc qd2 ?_ | (refine cs_ ?_ ?_ <;> intro hc) | refine cj_ ?_ | simp (disch := omega) only [encs_getN, qb]) <;> (try refine ev_ ?_)) | with_reducible exact ti_)
 refine qk (S := Nat) (fun i => i ≤ l.length ∧ ∀ j, j < i → qdp [(l.getD j P0).ty] = true) (fun i => (⟨[(0, .sl 4 (qo a)), (1, .sl 4 (qbh l)), (5, .int .i64 i)], []⟩, [])) (fun i => l.length - i) ?_ fun i hi => ?_
 ·refine qh 0 [] ⟨Nat.zero_le _, fun j hj => by omega⟩ rfl (by simp) ?_ ?_ ?_ <;> (try refine ev_ ?_) <;> (try with_reducible exact ti_) <;> (try simp (disch := omega) only [qb, and_true, true_and])
 ·obtain ⟨hi, hf⟩ := hi
  by_cases hlt : i < l.length
  ·have hg := qee hlt
   by_cases hft : qdp [(l.getD i P0).ty] = true
   ·repeat' (first | refine vs_ ?_ | ((first | refine vr_ ?_ | fail) <;> (try simp (disch := first | omega | (simp only [List.length_set, List.length_append, List.length_cons, List.length_nil]; done) | (simp only [List.length_set, List.length_append, List.length_cons, List.length_nil]; omega)) only [h10, hg, qb, go_sem, ↓reduceIte])) | ((first | simp (disch := omega) only [hg] | (refine cs_ ?_ ?_ <;> intro hc) | refine cj_ ?_ | simp (disch := omega) only [encs_getN, qb] | refine qa (qlr hft) fun _ => ?_ | refine qc (qlr hft) ?_) <;> (try refine ev_ ?_)) | with_reducible exact ti_)
    all_goals try (exfalso; omega)
    ·refine qh (i + 1) [] ⟨⟨by omega, fun j hj => ?_⟩, by omega⟩ rfl (by simp) ?_ ?_ ?_ <;> (try refine ev_ ?_) <;> (try with_reducible exact ti_) <;> (try simp (disch := omega) only [qb, and_true, true_and])
     by_cases hji : j = i
     ·subst hji; exact hft
     ·exact hf j (by omega)
   ·have hft : qdp [(l.getD i P0).ty] = false := by simpa using hft
    repeat' (first | refine vs_ ?_ | ((first | refine vr_ ?_ | fail) <;> (try simp (disch := first | omega | (simp only [List.length_set, List.length_append, List.length_cons, List.length_nil]; done) | (simp only [List.length_set, List.length_append, List.length_cons, List.length_nil]; omega)) only [h10, hg, qb, go_sem, ↓reduceIte])) | ((first | simp (disch := omega) only [hg] | (refine cs_ ?_ ?_ <;> intro hc) | refine cj_ ?_ | simp (disch := omega) only [encs_getN, qb] | refine qa (qpv hft) fun _ => ?_ | refine qa qd2 fun _ => ?_ | refine qc (qpv hft) ?_ | refine qc qd2 ?_) <;> (try refine ev_ ?_)) | with_reducible exact ti_)
    all_goals try (exfalso; omega)
  ·have hie : i = l.length := by omega
   subst hie
   have hpl : ∀ p ∈ l, szY p.ty ≤ 20000 ∧ dpY p.ty ≤ 300 := fun p hp => by
    obtain ⟨j, hj⟩ := List.mem_iff_getElem?.1 hp
    have hjl := (List.getElem?_eq_some_iff.1 hj).1
    have := qsi (hf j hjl)
    rwa [List.getD_eq_getElem?_getD, hj] at this
   have h20 : l.length ≤ 20 := by omega
   have hP := qtf hS (by omega) (by omega) hpl
   have hRP := qm7 hS (by omega) hpl
   have hpa : ∀ p : List Pd × Int, prdA p = .tup [.sl 4 (qbh p.1), .int .i64 p.2] := fun _ => rfl
   rw [hpa] at hP hRP
   have hb1 : AV.bd 0 (.tup [.sl 4 (qbh (prdR S [] l).1), .int .i64 (prdR S [] l).2]) = true := qtl 0 _
   have hb2 : AV.bds 0 [.sl 4 (qbh l)] = true := by simp only [AV.bds, AV.bd, qcy, Bool.and_true]
   have hXl : (prdR S [] l).1.length ≤ 20 := by
    have := qu9 S l []
    simp only [List.length_nil] at this
    omega
   generalize prdR S [] l = X at hP hRP hb1 hXl
   repeat' (first | refine vs_ ?_ | ((first | refine vr_ ?_ | fail) <;> (try simp only [h10, go_sem, ↓reduceIte])) | ((first | (refine cs_ ?_ ?_ <;> intro hc) | refine cj_ ?_ | simp (disch := omega) only [encs_getN, qb] | refine qs8 ha2 (by omega) hnS ?_ | refine qa hR1 fun _ => ?_ | refine qc hR1 ?_) <;> (try refine ev_ ?_)) | with_reducible exact ti_)
   all_goals try (exfalso; omega)
   repeat' (first | refine vs_ ?_ | ((first | refine vr_ ?_ | refine qcp 0 hP hb2 hb1 ?_ | refine qa hRP fun _ => ?_ | refine qa hR1 fun _ => ?_ | refine qc hRP ?_ | refine qc hR1 ?_ | (refine cs_ ?_ ?_ <;> intro hc) | refine cj_ ?_ | simp (disch := omega) only [encs_getN, qb]) <;> (try refine ev_ ?_)) | with_reducible exact ti_)
   all_goals try (exfalso; omega)
   obtain ⟨B, e⟩ := X
   have hBl : B.length ≤ maxLen := by
    have h : B.length ≤ 20 := hXl
    unfold maxLen; omega
   refine qk (S := Nat) (fun i => i ≤ B.length) (fun i => (⟨[(6, .sl 4 (qbh B)), (8, .sl 4 (qbh B)), (10, .int .i64 i)], []⟩, [])) (fun i => B.length - i) ?_ fun i hi => ?_
   ·refine qh 0 [] (Nat.zero_le _) rfl (by simp) ?_ ?_ ?_ <;> (try refine ev_ ?_) <;> (try with_reducible exact ti_) <;> (try simp (disch := omega) only [qb, and_true, true_and])
   ·by_cases hlt : i < B.length
    ·have hg := qee hlt
     repeat' (first | refine vs_ ?_ | ((first | refine vr_ ?_ | fail) <;> (try simp (disch := first | omega | (simp only [List.length_set, List.length_append, List.length_cons, List.length_nil]; done) | (simp only [List.length_set, List.length_append, List.length_cons, List.length_nil]; omega)) only [hg, qb, go_sem, ↓reduceIte])) | ((first | simp (disch := omega) only [hg] | (refine cs_ ?_ ?_ <;> intro hc) | refine cj_ ?_ | simp (disch := omega) only [encs_getN, qb] | refine qa (qlf _) fun _ => ?_ | refine qc (qlf _) ?_) <;> (try refine ev_ ?_)) | with_reducible exact ti_)
     all_goals try (exfalso; omega)
     refine qh (i + 1) [] ⟨by omega, by omega⟩ rfl (by simp) ?_ ?_ ?_ <;> (try refine ev_ ?_) <;> (try with_reducible exact ti_) <;> (try simp (disch := omega) only [qb, and_true, true_and])
    ·repeat' (first | refine vs_ ?_ | ((first | refine vr_ ?_ | refine qa qd2 fun _ => ?_ | refine qc qd2 ?_ | (refine cs_ ?_ ?_ <;> intro hc) | refine cj_ ?_ | simp (disch := omega) only [encs_getN, qb]) <;> (try refine ev_ ?_)) | with_reducible exact ti_)
     all_goals try (exfalso; omega)
end Go.Proofs.Ytfpobiheiloamaa
