/- Texts of this proof, joined. -/
import Derived.Test.YtfpobiheiloamaaEbc
import Derived.Test.YtfpobiheiloamaaEbd
import Derived.Test.YtfpobiheiloamaaEaw

/- substitutions: new ones, types and their pairs -/
set_option maxRecDepth 4000
namespace Go.Proofs.Ytfpobiheiloamaa
open Go Go.RowKit Go.V
set_option linter.unusedVariables false
set_option linter.unusedSimpArgs false

theorem qfu {l : List Pr} {i : Nat} (h : i < l.length) : l.take (i + 1) = l.take i ++ [l.getD i R0] := by
 rw [List.take_add_one, List.getD_eq_getElem?_getD, List.getElem?_eq_getElem h]; rfl
def smlR (l : List Pr) : Prop := ∀ p ∈ l, szY p.ty ≤ 20000 ∧ dpY p.ty ≤ 300
theorem qmw {l : List Pr} (hs : smlR l) (hl : l.length ≤ 100000) : VCalls Try.prog 33 [] [.sl 4 (qh l)] fun H' o => H' = [subE (newR l)] ∧ o = .val (.ptr 0 0) := by
 refine qp c0bi 1 (by simp) (by simp) ?_
 repeat' (first | refine vs_ ?_ | ((first | refine vr_ ?_ | (refine cs_ ?_ ?_ <;> intro hc) | refine cj_ ?_ | simp (disch := omega) only [encs_getN, qb]) <;> (try refine ev_ ?_)) | with_reducible exact ti_)
 refine q1k 0 rfl rfl ?_
 refine ql (S := Nat) (fun i => i ≤ l.length) (fun i => (⟨[(3, .ptr 0 0), (8, .sl 4 (qh l)), (9, .int .i64 l.length), (10, .int .i64 i)], []⟩, [subE (newR (l.take i))])) (fun i => l.length - i) ?_ fun i hi => ?_
 ·refine qj 0 [0] (Nat.zero_le _) rfl (by simp) ?_ ?_ ?_ <;> simp only [List.take_zero, newR, addR, qgw] <;> (try refine ev_ ?_) <;> (try with_reducible exact ti_) <;> (try simp (disch := omega) only [qb, and_true, true_and])
  all_goals rfl
 ·by_cases hlt : i < l.length
  ·have hok := qhk (l.take i)
   have hln := qj0 (l.take i)
   rw [List.length_take] at hln
   have hm := hs _ (qbx hlt)
   have hn : newR (l.take (i + 1)) = (setR (newR (l.take i)) (l.getD i R0).v (l.getD i R0).ty).1 := by rw [qfu hlt, newR, qh9]; rfl
   have hp := qe hlt
   repeat' (first | refine vs_ ?_ | ((first | refine vr_ ?_ | fail) <;> (try simp (disch := first | omega | (simp only [List.length_set, List.length_append, List.length_cons, List.length_nil]; done) | (simp only [List.length_set, List.length_append, List.length_cons, List.length_nil]; omega)) only [hp, qb, go_sem, ↓reduceIte])) | ((first | simp (disch := omega) only [hp] | (refine cs_ ?_ ?_ <;> intro hc) | refine cj_ ?_ | simp (disch := omega) only [encs_getN, qb] | refine qcu 0 (qd0 hok.1 (by omega) _ hm.1 hm.2) ?_) <;> (try refine ev_ ?_)) | with_reducible exact ti_)
   ·refine qj (i + 1) [0] ⟨by omega, by omega⟩ rfl (by simp) ?_ ?_ ?_ <;> simp only [hn] <;> (try refine ev_ ?_) <;> (try with_reducible exact ti_) <;> (try simp (disch := omega) only [qb, and_true, true_and])
    all_goals rw [qba (by omega) (by omega), Int.natCast_add]; rfl
   ·exfalso; omega
  ·have hie : i = l.length := by omega
   subst hie
   rw [List.take_length]
   repeat' (first | refine vs_ ?_ | ((first | refine vr_ ?_ | (refine cs_ ?_ ?_ <;> intro hc) | refine cj_ ?_ | simp (disch := omega) only [encs_getN, qb]) <;> (try refine ev_ ?_)) | with_reducible exact ti_)
   all_goals (exfalso; omega)
set_option maxRecDepth 4000

theorem qmh {R : World → (Nat → Nat → Prop) → Gh → Prop} {b : Bool} {s : List Pr} (hG : ∀ v, VM Try.prog 37 (.cus R) (.cus R) [svA b 0, .int .i64 v] (getV s v)) (hs : okS s) {t : Ty} (h1 : szY t ≤ 20000) (h2 : dpY t ≤ 300) :
 VM Try.prog 35 (.cus R) (.cus R) [svA b 0, encY t] (typA (appR s t)) := by
 refine qp c0bh 1 (by simp) (by simp) ?_
 have hLg := qcv h1 h2
 rw [← q22 hs]
 by_cases hlg : qu t = true
 ·obtain ⟨q1, q2, q3⟩ := (qbh t).1 hlg
  have hput := qbb0 hG (qkq hs) t (qco t q3) h1 4096 1 (by omega) (by omega) (by omega) (by omega)
  rw [hlg] at hLg
  by_cases hn : (bput s t 4096 1).1 < 0
  ·have hnd : decide ((bput s t 4096 1).1 < 0) = true := decide_eq_true hn
   rw [appP, if_pos hlg, if_pos hn]
   repeat' (first | refine vs_ ?_ | ((first | refine vr_ ?_ | fail) <;> (try simp only [hnd, go_sem, ↓reduceIte])) | ((first | (refine cs_ ?_ ?_ <;> intro hc) | refine cj_ ?_ | fail | refine qa hLg fun _ => ?_ | refine qnl 3 0 hput (by simp) ?_) <;> (try refine ev_ ?_)) | with_reducible exact ti_)
   all_goals rfl
  ·have hnd : decide ((bput s t 4096 1).1 < 0) = false := decide_eq_false hn
   rw [appP, if_pos hlg, if_neg hn]
   repeat' (first | refine vs_ ?_ | ((first | refine vr_ ?_ | fail) <;> (try simp only [hnd, go_sem, ↓reduceIte])) | ((first | (refine cs_ ?_ ?_ <;> intro hc) | refine cj_ ?_ | fail | refine qa hLg fun _ => ?_ | refine qnl 3 0 hput (by simp) ?_) <;> (try refine ev_ ?_)) | with_reducible exact ti_)
   all_goals rfl
 ·rw [appP, if_neg hlg]
  have hlg : qu t = false := by simpa using hlg
  rw [hlg] at hLg
  repeat' (first | refine vs_ ?_ | ((first | refine vr_ ?_ | refine qa hLg fun _ => ?_ | (refine cs_ ?_ ?_ <;> intro hc) | refine cj_ ?_ | fail) <;> (try refine ev_ ?_)) | with_reducible exact ti_)
  all_goals rfl
set_option maxRecDepth 4000

def zR : AV := .agg [.int .i64 0, .str [], .int .i64 0, .nils]
def cpR (l : List Pr) (i : Nat) : List AV := qh (l.take i) ++ List.replicate (l.length - i) zR
theorem q35 {l : List Pr} {i : Nat} (h : i ≤ l.length) : (cpR l i).length = l.length := by
 rw [cpR, List.length_append, qq, List.length_take, List.length_replicate]; omega
theorem qbe8 (l : List Pr) : cpR l 0 = List.replicate l.length zR := by rw [cpR, List.take_zero, qb1, Nat.sub_zero]; rfl
theorem qbbo (l : List Pr) : cpR l l.length = qh l := by rw [cpR, List.take_length, Nat.sub_self, List.replicate_zero, List.append_nil]
theorem qt1 {l : List Pr} {i : Nat} (h : i < l.length) : (cpR l i).set i (encR (l.getD i R0)) = cpR l (i + 1) := by
 have h2 : (qh (l.take i)).length = i := by rw [qq, List.length_take]; omega
 obtain ⟨k, hk⟩ : ∃ k, l.length - i = k + 1 := ⟨l.length - i - 1, by omega⟩
 have hk2 : l.length - (i + 1) = k := by omega
 rw [cpR, cpR, hk, hk2, List.replicate_succ, qfu h, ← qft, List.set_append_right _ _ (by omega), h2, Nat.sub_self, List.set_cons_zero, List.append_assoc]
 rfl
theorem qoy (k : Nat) (l : List Pr) (i : Nat) : AV.bds k (cpR l i) = true := by
 rw [cpR, qf7, qbc, qdn]
 simp [zR, AV.bd, AV.bds]
theorem qnd (σ : Nat → Nat) (l : List Pr) (i : Nat) : AV.rens σ (cpR l i) = cpR l i := qo (m := 0) (fun i hi => by omega) _ (qoy 0 l i)
attribute [go_sem] qoy qnd
theorem qr1 : VCalls Try.prog 41 [.blk [.nils]] [.ptr 0 0] (qd7 fun H' o => H' = [subE []] ∧ o = .val (.sl 4 (qh []))) := by
 refine qp c0bb 1 (by simp) (by simp) ?_
 repeat' (first | refine vs_ ?_ | ((first | refine vr_ ?_ | (refine cs_ ?_ ?_ <;> intro hc) | refine cj_ ?_ | simp (disch := omega) only [encs_getN, qb]) <;> (try refine ev_ ?_)) | with_reducible exact ti_)
 refine ql (S := Unit) (fun _ => True) (fun _ => (⟨[(3, .row 1 0), (18, .int .i64 (0 : Nat)), (19, .int .i64 (0 : Nat))], []⟩, [.blk [.nils], .mrow 4 []])) (fun _ => 0) ?_ fun x hx => ?_
 ·refine qj () [0, 1] trivial rfl (by simp) ?_ ?_ ?_ <;> (try refine ev_ ?_) <;> (try with_reducible exact ti_) <;> (try simp (disch := omega) only [qb, and_true, true_and])
  all_goals rfl
 ·refine qdt 1 rfl (fun v hv => by simp at hv) ?_
  repeat' (first | refine vs_ ?_ | ((first | refine vr_ ?_ | (refine cs_ ?_ ?_ <;> intro hc) | refine cj_ ?_ | simp (disch := omega) only [encs_getN, qb]) <;> (try refine ev_ ?_)) | with_reducible exact ti_)
  ·exact absurd hc (by omega)
  ·exact qem rfl (by simp) rfl ⟨rfl, rfl⟩
theorem qwl {s : List Pr} (hs : s ≠ []) (hl : s.length ≤ 100000) (ho : smlR s) : VCalls Try.prog 41 [.blk [.row 1 s.length], qbo s] [.ptr 0 0] (qd7 fun H' o => H' = [subE s] ∧ o = .val (.sl 4 (qh s))) := by
 refine qp c0bb 2 (by simp) (by simp) ?_
 repeat' (first | refine vs_ ?_ | ((first | refine vr_ ?_ | (refine cs_ ?_ ?_ <;> intro hc) | refine cj_ ?_ | simp (disch := omega) only [encs_getN, qb]) <;> (try refine ev_ ?_)) | with_reducible exact ti_)
 have hm : s.length ≤ maxLen := by unfold maxLen; omega
 refine ⟨hm, ⟨by omega, by omega⟩, ?_⟩
 repeat' (first | refine vs_ ?_ | ((first | refine vr_ ?_ | (refine cs_ ?_ ?_ <;> intro hc) | refine cj_ ?_ | simp (disch := omega) only [encs_getN, qb]) <;> (try refine ev_ ?_)) | with_reducible exact ti_)
 refine ql (S := Nat) (fun i => i ≤ s.length) (fun i => (⟨[(3, .row 2 s.length), (17, .row 1 s.length), (18, .int .i64 s.length), (19, .int .i64 i)], []⟩, [.blk [.row 1 s.length], qbo s, .mrow 4 (cpR s i)])) (fun i => s.length - i) ?_ fun i hi => ?_
 ·refine qj 0 [0, 1, 2] (Nat.zero_le _) rfl (by simp) ?_ ?_ ?_ <;> simp only [qbe8, zR] <;> (try refine ev_ ?_) <;> (try with_reducible exact ti_) <;> (try simp (disch := omega) only [qb, and_true, true_and])
  all_goals
   rw [show List.replicate s.length (AV.agg [AV.int .i64 0, AV.str [], AV.int .i64 0, AV.nils]) = cpR s 0 from (qbe8 _).symm]
   exact ⟨qoy _ _ _, by rw [qnd]⟩
 ·by_cases hlt : i < s.length
  ·have hp := qe hlt
   have hc := q35 hi
   have hcp := qcw (s.getD i R0).ty (by have := (ho _ (qbx hlt)).1; omega)
   repeat' (first | refine vs_ ?_ | ((first | refine vr_ ?_ | fail) <;> (try simp (disch := first | omega | (simp only [List.length_set, List.length_append, List.length_cons, List.length_nil]; done) | (simp only [List.length_set, List.length_append, List.length_cons, List.length_nil]; omega)) only [hp, qb, go_sem, ↓reduceIte])) | ((first | simp (disch := omega) only [hp] | (refine cs_ ?_ ?_ <;> intro hc) | refine cj_ ?_ | simp (disch := omega) only [encs_getN, qb] | refine qa hcp fun _ => ?_ | refine qf hcp ?_) <;> (try refine ev_ ?_)) | with_reducible exact ti_)
   ·refine qj (i + 1) [0, 1, 2] ⟨by omega, by omega⟩ rfl (by simp) ?_ ?_ ?_ <;> simp only [← qt1 hlt] <;> (try refine ev_ ?_) <;> (try with_reducible exact ti_) <;> (try simp (disch := omega) only [qb, and_true, true_and])
    all_goals (rw [qt1 hlt]; exact ⟨qoy _ _ _, by rw [qnd]⟩)
   ·exfalso; omega
  ·have hie : i = s.length := by omega
   subst hie
   rw [qbbo]
   refine qdt 2 rfl (qi5 _) ?_
   repeat' (first | refine vs_ ?_ | ((first | refine vr_ ?_ | (refine cs_ ?_ ?_ <;> intro hc) | refine cj_ ?_ | simp (disch := omega) only [encs_getN, qb]) <;> (try refine ev_ ?_)) | with_reducible exact ti_)
   all_goals try (exfalso; omega)
   all_goals exact qcs 1 hs rfl rfl (by simp) (by simp) (by simp [AV.bd, qbc]) ⟨rfl, rfl⟩
theorem qce {s : List Pr} (hl : s.length ≤ 100000) (ho : smlR s) : VM Try.prog 41 (subE s) (subE s) [.ptr 0 0] (.sl 4 (qh s)) := by
 by_cases hs : s = []
 ·subst hs
  exact qi2 (by rw [qgw]; exact qr1) rfl
 ·exact qi2 (by have := qwl hs hl ho; rwa [← qkf hs] at this) rfl
set_option maxRecDepth 4000

section
variable {P : Program} {f : FuncId} {e : Ent} {L : List Ent} {args : List AV} {Q : List Ent → VO → Prop}
theorem qg3 (h : VCalls P f [] args fun H' o => H' = [e] ∧ o = .val (.ptr 0 0)) (hb : e.bd 0 = true) (ha : AV.bds 0 args = true) (hq : Q (L ++ [e]) (.val (.ptr L.length 0))) : VApp P L (.fn f [] []) args Q := by
 refine qwu h ha fun H1 o ho => ?_
 obtain ⟨rfl, rfl⟩ := ho
 have e1 : qgt L [] [e] = L ++ [e] := by
  show L ++ [e.ren _] = _
  rw [Ent.ren_bd0 hb]
 rw [e1]
 exact hq
end
theorem qdh {s : List Pr} (h : okS s) : smlR s := fun p hp => by
 have := (qbh _).1 (h.2 p hp)
 omega
theorem qj1 : VCalls Try.prog 33 [] [.sl 4 []] fun H' o => H' = [subE []] ∧ o = .val (.ptr 0 0) := qmw (l := []) (fun p hp => by simp at hp) (by simp)
theorem q68 {s : List Pr} (ho : risR s) {i : Nat} (h : i < s.length) : ∀ p ∈ s.take i, p.v < (s.getD i R0).v := fun p hp => by
 obtain ⟨j, hj⟩ := List.mem_iff_getElem?.1 hp
 have hjl := (List.getElem?_eq_some_iff.1 hj).1
 rw [List.length_take] at hjl
 rw [List.getElem?_take] at hj
 split at hj
 ·have := qop ho j i (by omega) h
  rw [List.getD_eq_getElem?_getD, hj] at this
  exact this
 ·cases hj
theorem quz {vars : List Int} {s : List Pr} (ho : okS s) {i : Nat} (h : i < s.length) (hv : (s.getD i R0).v ∈ vars) : (setR (qdo vars (s.take i)) (s.getD i R0).v (s.getD i R0).ty).1 = qdo vars (s.take (i + 1)) := by
 rw [qi6 vars h, if_pos hv, qok (ho.2 _ (qbx h))]
 exact fun p hp => q68 ho.1 h p (List.mem_filter.1 hp).1
theorem qxt {s : List Pr} (ho : risR s) (i : Nat) : risR (s.take i) := by
 induction s generalizing i with
 | nil => simp; exact trivial
 | cons p r ih =>
   cases i with
   | zero => exact trivial
   | succ i => exact ⟨fun q hq => ho.1 q (List.mem_of_mem_take hq), ih ho.2 i⟩
theorem qqq {s : List Pr} (hs : okS s) (hl : s.length ≤ 40000) (vars : List Int) : VCalls Try.prog 42 [subE s] [.ptr 0 0, .sl 1 (ints vars)] fun H' o => H' = [subE s, subE (qdo vars s)] ∧ o = .val (.ptr 1 0) := by
 refine qp c0bg 2 (by simp) (by simp) ?_
 repeat' (first | refine vs_ ?_ | ((first | refine vr_ ?_ | refine qg3 qj1 rfl rfl ?_ | refine qcu 0 (qce (by omega) (qdh hs)) ?_ | (refine cs_ ?_ ?_ <;> intro hc) | refine cj_ ?_ | simp (disch := omega) only [encs_getN, qb]) <;> (try refine ev_ ?_)) | with_reducible exact ti_)
 refine ql (S := Nat) (fun i => i ≤ s.length) (fun i => (⟨[(1, .sl 1 (ints vars)), (5, .ptr 1 0), (10, .sl 4 (qh s)), (11, .int .i64 s.length), (12, .int .i64 i)], []⟩, [subE s, subE (qdo vars (s.take i))])) (fun i => s.length - i) ?_ fun i hi => ?_
 ·refine qj 0 [0, 1] (Nat.zero_le _) rfl (by simp) ?_ ?_ ?_ <;> simp only [List.take_zero, qdo, List.filter_nil] <;> (try refine ev_ ?_) <;> (try with_reducible exact ti_) <;> (try simp (disch := omega) only [qb, and_true, true_and])
 ·by_cases hlt : i < s.length
  ·have hp := qe hlt
   have hm := qdh hs _ (qbx hlt)
   have hwl := qsd vars (s.take i)
   rw [List.length_take] at hwl
   have hris : risR (qdo vars (s.take i)) := qed _ (qxt hs.1 i)
   by_cases hv : (s.getD i R0).v ∈ vars
   ·have hn := quz hs hlt hv
    have hvd : decide ((s.getD i R0).v ∈ vars) = true := decide_eq_true hv
    repeat' (first | refine vs_ ?_ | ((first | refine vr_ ?_ | fail) <;> (try simp (disch := first | omega | (simp only [List.length_set, List.length_append, List.length_cons, List.length_nil]; done) | (simp only [List.length_set, List.length_append, List.length_cons, List.length_nil]; omega)) only [hp, qb, hvd, go_sem, ↓reduceIte])) | ((first | simp (disch := omega) only [hp] | simp (disch := omega) only [hvd] | (refine cs_ ?_ ?_ <;> intro hc) | refine cj_ ?_ | simp (disch := omega) only [encs_getN, qb] | refine qa (qd2 vars _) fun _ => ?_ | refine qcu 1 (qd0 hris (by omega) _ hm.1 hm.2) ?_) <;> (try refine ev_ ?_)) | with_reducible exact ti_)
    ·refine qj (i + 1) [0, 1] ⟨by omega, by omega⟩ rfl (by simp) ?_ ?_ ?_ <;> simp only [hn] <;> (try refine ev_ ?_) <;> (try with_reducible exact ti_) <;> (try simp (disch := omega) only [qb, and_true, true_and])
     all_goals rw [qba (by omega) (by omega), Int.natCast_add]; rfl
    ·exfalso; omega
   ·have hn := qi6 vars hlt
    rw [if_neg hv, List.append_nil] at hn
    have hvd : decide ((s.getD i R0).v ∈ vars) = false := decide_eq_false hv
    repeat' (first | refine vs_ ?_ | ((first | refine vr_ ?_ | fail) <;> (try simp (disch := first | omega | (simp only [List.length_set, List.length_append, List.length_cons, List.length_nil]; done) | (simp only [List.length_set, List.length_append, List.length_cons, List.length_nil]; omega)) only [hp, qb, hvd, go_sem, ↓reduceIte])) | ((first | simp (disch := omega) only [hp] | simp (disch := omega) only [hvd] | (refine cs_ ?_ ?_ <;> intro hc) | refine cj_ ?_ | simp (disch := omega) only [encs_getN, qb] | refine qa (qd2 vars _) fun _ => ?_) <;> (try refine ev_ ?_)) | with_reducible exact ti_)
    ·refine qj (i + 1) [0, 1] ⟨by omega, by omega⟩ rfl (by simp) ?_ ?_ ?_ <;> simp only [hn] <;> (try refine ev_ ?_) <;> (try with_reducible exact ti_) <;> (try simp (disch := omega) only [qb, and_true, true_and])
     all_goals rw [qba (by omega) (by omega), Int.natCast_add]; rfl
    ·exfalso; omega
  ·have hie : i = s.length := by omega
   subst hie
   rw [List.take_length]
   repeat' (first | refine vs_ ?_ | ((first | refine vr_ ?_ | (refine cs_ ?_ ?_ <;> intro hc) | refine cj_ ?_ | simp (disch := omega) only [encs_getN, qb]) <;> (try refine ev_ ?_)) | with_reducible exact ti_)
   all_goals (exfalso; omega)
set_option maxRecDepth 4000

theorem qhz (t : List Pr) (b : List Pr) : ∀ (a acc : List Pr), (qbf t acc a).2 = 0 → qbf t acc (a ++ b) = qbf t (qbf t acc a).1 b
 | [], acc, _ => rfl
 | p :: r, acc, h => by
   rw [qbf] at h
   rw [List.cons_append, qbf, qbf]
   split at h
   ·rename_i h0
    rw [if_pos h0, if_pos h0, qhz t b r _ h]
   ·rename_i h0
    exact absurd h h0
theorem qku {t : List Pr} : ∀ (a : List Pr) {acc : List Pr}, okS acc → okS (qbf t acc a).1
 | [], _, h => h
 | p :: r, acc, h => by
   rw [qbf]
   split
   ·exact qku r (qkc h _ _)
   ·exact qhy
theorem qfp (t : List Pr) : ∀ (a acc : List Pr), (qbf t acc a).1.length ≤ acc.length + a.length
 | [], acc => by simp [qbf]
 | p :: r, acc => by
   rw [qbf, List.length_cons]
   split
   ·have h1 := qfp t r (setR acc p.v (appR t p.ty).1).1
    have h2 := qj8 acc p.v (appR t p.ty).1
    omega
   ·simp
theorem qvf {s t : List Pr} (hs : okS s) (ht : okS t) : behR s t = if (qbf t [] s).2 = 0 then (addR (qbf t [] s).1 t, 0) else ([], (qbf t [] s).2) := by
 rw [behR, ← qpf ht s [] hs.1 (fun p hp => by simp at hp)]
theorem qww {s t : List Pr} {i : Nat} (h : i < s.length) (h0 : (qbf t [] (s.take i)).2 = 0) : qbf t [] s = qbf t (qbf t [] (s.take i)).1 (s.getD i R0 :: s.drop (i + 1)) := by
 have := qhz t (s.drop i) (s.take i) [] h0
 rwa [List.take_append_drop, qtp h] at this
theorem qpv {s t : List Pr} {i : Nat} (h : i < s.length) (h0 : (qbf t [] (s.take i)).2 = 0) (ha : (appR t (s.getD i R0).ty).2 = 0) : qbf t [] (s.take (i + 1)) = ((setR (qbf t [] (s.take i)).1 (s.getD i R0).v (appR t (s.getD i R0).ty).1).1, 0) := by
 rw [qfu h, qhz t _ _ _ h0, qbf, if_pos ha, qbf]
theorem qi7 {s t : List Pr} {i : Nat} (h : i < s.length) (h0 : (qbf t [] (s.take i)).2 = 0) (ha : (appR t (s.getD i R0).ty).2 ≠ 0) : qbf t [] s = ([], (appR t (s.getD i R0).ty).2) := by
 rw [qww h h0, qbf, if_neg ha]
def newQ (L : List Ent) (p : List Pr × Int) (H' : List Ent) (o : VO) : Prop :=
 if p.2 = 0 then H' = L ++ [subE p.1] ∧ o = .val (.tup [.ptr L.length 0, .int .i64 0]) else H' = L ∧ o = .val (.tup [.nilp, .int .i64 p.2])
theorem qv6 {s t : List Pr} (hs : okS s) (ht : okS t) (h1 : s.length ≤ 40000) (h2 : t.length ≤ 40000) : VCalls Try.prog 46 [subE s, subE t] [.ptr 0 0, .ptr 1 0] (newQ [subE s, subE t] (behR s t)) := by
 have hms := qdh hs
 have hmt := qdh ht
 have hA : ∀ ty, szY ty ≤ 20000 → dpY ty ≤ 300 → VM Try.prog 35 (subE t) (subE t) [.ptr 0 0, encY ty] (typA (appR t ty)) := fun ty q1 q2 => qmh (b := true) (R := bunR (subH t)) (fun v => qnj ht.1 (by omega) v) ht q1 q2
 have hstep : ∀ i, i < s.length → (qbf t [] (s.take i)).2 = 0 → risR (qbf t [] (s.take i)).1 ∧ (qbf t [] (s.take i)).1.length ≤ 40000 := fun i hi h0 => by
  have := qfp t (s.take i) []
  rw [List.length_take] at this
  exact ⟨(qku (s.take i) qhy).1, by simp at this; omega⟩
 have hap : ∀ i, i < s.length → (appR t (s.getD i R0).ty).2 = 0 → szY (appR t (s.getD i R0).ty).1 ≤ 20000 ∧ dpY (appR t (s.getD i R0).ty).1 ≤ 300 := fun i hi h0 => by
  obtain ⟨_, q2, q3⟩ := qfz ht h0
  rw [q3]
  have := (qbh _).1 q2
  omega
 rw [qvf hs ht]
 by_cases he : (qbf t [] s).2 = 0
 ·rw [if_pos he]
  refine qp c0bf 3 (by simp) (by simp) ?_
  repeat' (first | refine vs_ ?_ | ((first | refine vr_ ?_ | refine qg3 qj1 rfl rfl ?_ | refine qcu 0 (qce (by omega) hms) ?_ | (refine cs_ ?_ ?_ <;> intro hc) | refine cj_ ?_ | simp (disch := omega) only [encs_getN, qb]) <;> (try refine ev_ ?_)) | with_reducible exact ti_)
  refine ql (S := Nat) (fun i => i ≤ s.length ∧ (qbf t [] (s.take i)).2 = 0) (fun i => (⟨[(1, .ptr 1 0), (6, .ptr 2 0), (15, .sl 4 (qh s)), (16, .int .i64 s.length), (17, .int .i64 i)], []⟩, [subE s, subE t, subE (qbf t [] (s.take i)).1])) (fun i => s.length - i) ?_ fun i hi => ?_
  ·refine qj 0 [0, 1, 2] ⟨Nat.zero_le _, rfl⟩ rfl (by simp) ?_ ?_ ?_ <;> simp only [List.take_zero, qbf] <;> (try refine ev_ ?_) <;> (try with_reducible exact ti_) <;> (try simp (disch := omega) only [qb, and_true, true_and])
  ·obtain ⟨hi, h0⟩ := hi
   by_cases hlt : i < s.length
   ·have hp := qe hlt
    have hm := hms _ (qbx hlt)
    obtain ⟨a1, a2⟩ := hstep i hlt h0
    by_cases ha : (appR t (s.getD i R0).ty).2 = 0
    ·obtain ⟨b1, b2⟩ := hap i hlt ha
     have hn := qpv hlt h0 ha
     have hT : typA (appR t (s.getD i R0).ty) = .tup [encY (appR t (s.getD i R0).ty).1, .int .i64 0] := by rw [typA, ha]
     repeat' (first | refine vs_ ?_ | ((first | refine vr_ ?_ | fail) <;> (try simp (disch := first | omega | (simp only [List.length_set, List.length_append, List.length_cons, List.length_nil]; done) | (simp only [List.length_set, List.length_append, List.length_cons, List.length_nil]; omega)) only [hp, qb, go_sem, ↓reduceIte])) | ((first | simp (disch := omega) only [hp] | simp (disch := omega) only [hT] | (refine cs_ ?_ ?_ <;> intro hc) | refine cj_ ?_ | simp (disch := omega) only [encs_getN, qb] | refine qcu 1 (hA _ hm.1 hm.2) ?_ rfl rfl (by simp) rfl (qkn 0 _) | refine qcu 2 (qd0 a1 (by omega) _ b1 b2) ?_) <;> (try refine ev_ ?_)) | with_reducible exact ti_)
     ·refine qj (i + 1) [0, 1, 2] ⟨⟨by omega, by rw [hn]⟩, by omega⟩ rfl (by simp) ?_ ?_ ?_ <;> simp only [hn] <;> (try refine ev_ ?_) <;> (try with_reducible exact ti_) <;> (try simp (disch := omega) only [qb, and_true, true_and])
      all_goals rw [qba (by omega) (by omega), Int.natCast_add]; rfl
     ·exfalso; omega
    ·exact absurd (by rw [qi7 hlt h0 ha] at he; exact he) ha
   ·have hie : i = s.length := by omega
    subst hie
    rw [List.take_length]
    have hok : okS (qbf t [] s).1 := qku s qhy
    have hln := qfp t s []
    simp only [List.length_nil, Nat.zero_add] at hln
    repeat' (first | refine vs_ ?_ | ((first | refine vr_ ?_ | refine qcu 1 (qce (by omega) hmt) ?_ | (refine cs_ ?_ ?_ <;> intro hc) | refine cj_ ?_ | simp (disch := omega) only [encs_getN, qb]) <;> (try refine ev_ ?_)) | with_reducible exact ti_)
    ·exfalso; omega
    ·generalize (qbf t [] s).1 = a at hok hln ⊢
     refine ql (S := Nat) (fun i => i ≤ t.length) (fun i => (⟨[(6, .ptr 2 0), (38, .sl 4 (qh t)), (39, .int .i64 t.length), (40, .int .i64 i)], []⟩, [subE s, subE t, subE (addR a (t.take i))])) (fun i => t.length - i) ?_ fun i hi => ?_
     ·refine qj 0 [0, 1, 2] (Nat.zero_le _) rfl (by simp) ?_ ?_ ?_ <;> simp only [List.take_zero, addR] <;> (try refine ev_ ?_) <;> (try with_reducible exact ti_) <;> (try simp (disch := omega) only [qb, and_true, true_and])
     ·by_cases hlt : i < t.length
      ·have hp := qe hlt
       have hm := hmt _ (qbx hlt)
       have hq := qjy (t.take i) hok
       have hql := qec (t.take i) a
       rw [List.length_take] at hql
       have hn := qie hlt a
       repeat' (first | refine vs_ ?_ | ((first | refine vr_ ?_ | fail) <;> (try simp (disch := first | omega | (simp only [List.length_set, List.length_append, List.length_cons, List.length_nil]; done) | (simp only [List.length_set, List.length_append, List.length_cons, List.length_nil]; omega)) only [hp, qb, go_sem, ↓reduceIte])) | ((first | simp (disch := omega) only [hp] | (refine cs_ ?_ ?_ <;> intro hc) | refine cj_ ?_ | simp (disch := omega) only [encs_getN, qb] | refine qcu 2 (qd0 hq.1 (by omega) _ hm.1 hm.2) ?_) <;> (try refine ev_ ?_)) | with_reducible exact ti_)
       ·refine qj (i + 1) [0, 1, 2] ⟨by omega, by omega⟩ rfl (by simp) ?_ ?_ ?_ <;> simp only [hn] <;> (try refine ev_ ?_) <;> (try with_reducible exact ti_) <;> (try simp (disch := omega) only [qb, and_true, true_and])
        all_goals rw [qba (by omega) (by omega), Int.natCast_add]; rfl
      ·have hie : i = t.length := by omega
       subst hie
       rw [List.take_length]
       repeat' (first | refine vs_ ?_ | ((first | refine vr_ ?_ | (refine cs_ ?_ ?_ <;> intro hc) | refine cj_ ?_ | simp (disch := omega) only [encs_getN, qb]) <;> (try refine ev_ ?_)) | with_reducible exact ti_)
       all_goals try (exfalso; omega)
       all_goals
        rw [newQ, if_pos rfl]
        exact ⟨rfl, rfl⟩
 ·rw [if_neg he]
  refine qp c0bf 2 (by simp) (by simp) ?_
  repeat' (first | refine vs_ ?_ | ((first | refine vr_ ?_ | refine qg3 qj1 rfl rfl ?_ | refine qcu 0 (qce (by omega) hms) ?_ | (refine cs_ ?_ ?_ <;> intro hc) | refine cj_ ?_ | simp (disch := omega) only [encs_getN, qb]) <;> (try refine ev_ ?_)) | with_reducible exact ti_)
  refine ql (S := Nat) (fun i => i ≤ s.length ∧ (qbf t [] (s.take i)).2 = 0) (fun i => (⟨[(1, .ptr 1 0), (6, .ptr 2 0), (15, .sl 4 (qh s)), (16, .int .i64 s.length), (17, .int .i64 i)], []⟩, [subE s, subE t, subE (qbf t [] (s.take i)).1])) (fun i => s.length - i) ?_ fun i hi => ?_
  ·refine qj 0 [0, 1, 2] ⟨Nat.zero_le _, rfl⟩ rfl (by simp) ?_ ?_ ?_ <;> simp only [List.take_zero, qbf] <;> (try refine ev_ ?_) <;> (try with_reducible exact ti_) <;> (try simp (disch := omega) only [qb, and_true, true_and])
  ·obtain ⟨hi, h0⟩ := hi
   have hlt : i < s.length := by
    by_cases hlt : i < s.length
    ·exact hlt
    ·rw [List.take_of_length_le (by omega)] at h0
     exact absurd h0 he
   have hp := qe hlt
   have hm := hms _ (qbx hlt)
   obtain ⟨a1, a2⟩ := hstep i hlt h0
   by_cases ha : (appR t (s.getD i R0).ty).2 = 0
   ·obtain ⟨b1, b2⟩ := hap i hlt ha
    have hn := qpv hlt h0 ha
    have hT : typA (appR t (s.getD i R0).ty) = .tup [encY (appR t (s.getD i R0).ty).1, .int .i64 0] := by rw [typA, ha]
    repeat' (first | refine vs_ ?_ | ((first | refine vr_ ?_ | fail) <;> (try simp (disch := first | omega | (simp only [List.length_set, List.length_append, List.length_cons, List.length_nil]; done) | (simp only [List.length_set, List.length_append, List.length_cons, List.length_nil]; omega)) only [hp, qb, go_sem, ↓reduceIte])) | ((first | simp (disch := omega) only [hp] | simp (disch := omega) only [hT] | (refine cs_ ?_ ?_ <;> intro hc) | refine cj_ ?_ | simp (disch := omega) only [encs_getN, qb] | refine qcu 1 (hA _ hm.1 hm.2) ?_ rfl rfl (by simp) rfl (qkn 0 _) | refine qcu 2 (qd0 a1 (by omega) _ b1 b2) ?_) <;> (try refine ev_ ?_)) | with_reducible exact ti_)
    ·refine qj (i + 1) [0, 1, 2] ⟨⟨by omega, by rw [hn]⟩, by omega⟩ rfl (by simp) ?_ ?_ ?_ <;> simp only [hn] <;> (try refine ev_ ?_) <;> (try with_reducible exact ti_) <;> (try simp (disch := omega) only [qb, and_true, true_and])
     all_goals rw [qba (by omega) (by omega), Int.natCast_add]; rfl
    ·exfalso; omega
   ·have hT : typA (appR t (s.getD i R0).ty) = .tup [encY (appR t (s.getD i R0).ty).1, .int .i64 (appR t (s.getD i R0).ty).2] := rfl
    have had : decide ((appR t (s.getD i R0).ty).2 = 0) = false := decide_eq_false ha
    rw [qi7 hlt h0 ha]
    repeat' (first | refine vs_ ?_ | ((first | refine vr_ ?_ | fail) <;> (try simp (disch := first | omega | (simp only [List.length_set, List.length_append, List.length_cons, List.length_nil]; done) | (simp only [List.length_set, List.length_append, List.length_cons, List.length_nil]; omega)) only [hp, qb, had, go_sem, ↓reduceIte])) | ((first | simp (disch := omega) only [hp] | simp (disch := omega) only [hT] | (refine cs_ ?_ ?_ <;> intro hc) | refine cj_ ?_ | simp (disch := omega) only [encs_getN, qb] | refine qcu 1 (hA _ hm.1 hm.2) ?_ rfl rfl (by simp) rfl (qkn 0 _)) <;> (try refine ev_ ?_)) | with_reducible exact ti_)
    all_goals try (exfalso; omega)
    all_goals
     rw [newQ, if_neg ha]
     exact ⟨rfl, rfl⟩
set_option maxRecDepth 4000

def fewR (l : List Pr) : Bool := decide (l.length ≤ 30) && qjl (l.map Pr.ty)
theorem qiv (l : List Pr) (i : Nat) (h : i < l.length) : (l.map Pr.ty).take (i + 1) = (l.map Pr.ty).take i ++ [(l.getD i R0).ty] := by
 rw [List.take_add_one, List.getElem?_map, List.getElem?_eq_getElem h, List.getD_eq_getElem?_getD, List.getElem?_eq_getElem h]; rfl
def qmt (l : List Pr) (i : Nat) : AF × List Ent := (⟨[(0, .sl 4 (qh l)), (3, accV 0 (qs ((l.map Pr.ty).take i))), (4, .int .i64 i)], []⟩, accE 3 (qs ((l.map Pr.ty).take i)))
theorem qbdv (l : List Pr) : qn Try.prog 30 [.sl 4 (qh l)] (.int .i64 (if fewR l = true then 1 else 0)) := by
 refine qd c0be (by simp) (by simp only [go_sem]) rfl fun hw => ?_
 have hl := (qcn hw.1).1
 repeat' (first | refine vs_ ?_ | ((first | refine vr_ ?_ | (refine cs_ ?_ ?_ <;> intro hc) | refine cj_ ?_ | simp (disch := omega) only [encs_getN, qb]) <;> (try refine ev_ ?_)) | with_reducible exact ti_)
 ·rw [if_neg (by simp [fewR]; omega)]
 have h30 : l.length ≤ 30 := by omega
 refine ql (S := Nat) (fun i => i ≤ l.length) (qmt l) (fun i => l.length - i) ?_ fun i hi => ?_
 ·refine qj 0 [] (Nat.zero_le _) rfl (by simp) ?_ ?_ ?_ <;> simp only [qmt, List.take_zero, qc9, qbk, qbi] <;> (try refine ev_ ?_) <;> (try with_reducible exact ti_) <;> (try simp (disch := omega) only [qb, and_true, true_and])
 ·have hfin : fewR l = qjl (l.map Pr.ty) := by rw [fewR, decide_eq_true h30, Bool.true_and]
  have hlm : ((l.map Pr.ty).take i).length = i := by rw [List.length_take, List.length_map]; omega
  have hcap : qc8 (i + 1) 48 = True := eq_true (capY (by omega))
  unfold qmt
  by_cases hlt : i < l.length
  ·have hs := qiv l i hlt
   by_cases h0 : i = 0
   ·subst h0
    simp only [List.take_zero, qc9, qbk, qbi]
    repeat' (first | refine vs_ ?_ | ((first | refine vr_ ?_ | fail) <;> (try simp (disch := first | omega | (simp only [List.length_set, List.length_append, List.length_cons, List.length_nil]; done) | (simp only [List.length_set, List.length_append, List.length_cons, List.length_nil]; omega)) only [qe, qb, qbj, go_sem, ↓reduceIte])) | ((first | simp (disch := omega) only [qe] | simp (disch := omega) only [qbj] | simp (disch := omega) only [(show qc8 1 48 = True from eq_true (capY (by omega)))] | (refine cs_ ?_ ?_ <;> intro hc) | refine cj_ ?_ | simp (disch := omega) only [encs_getN, qb]) <;> (try refine ev_ ?_)) | with_reducible exact ti_)
    ·refine qj 1 [0] ⟨by omega, by omega⟩ rfl (by simp) ?_ ?_ ?_ <;> simp only [qmt, hs, List.take_zero, List.nil_append, ← qqa, qg0, qg4] <;> (try refine ev_ ?_) <;> (try with_reducible exact ti_) <;> (try simp (disch := omega) only [qb, and_true, true_and])
     all_goals (rw [qdv])
    ·omega
   ·have hne : (l.map Pr.ty).take i ≠ [] := fun h => h0 (by rw [← hlm, h]; rfl)
    simp only [qcf (qg2 hne), qb9 (qg2 hne), q6, hlm]
    repeat' (first | refine vs_ ?_ | ((first | refine vr_ ?_ | fail) <;> (try simp (disch := first | omega | (simp only [List.length_set, List.length_append, List.length_cons, List.length_nil]; done) | (simp only [List.length_set, List.length_append, List.length_cons, List.length_nil]; omega)) only [qe, qb, qbj, q6, hlm, go_sem, ↓reduceIte])) | ((first | simp (disch := omega) only [qe] | simp (disch := omega) only [qbj] | simp (disch := omega) only [hcap] | (refine cs_ ?_ ?_ <;> intro hc) | refine cj_ ?_ | simp (disch := omega) only [encs_getN, qb]) <;> (try refine ev_ ?_)) | with_reducible exact ti_)
    ·have hl2 : qs ((l.map Pr.ty).take (i + 1)) = qs ((l.map Pr.ty).take i) ++ [encY (l.getD i R0).ty] := by rw [hs, qe3]
     refine qj (i + 1) [1] ⟨by omega, by omega⟩ rfl (by simp) ?_ ?_ ?_ <;> simp only [qmt, hl2, qez, qe1, q6, hlm] <;> (try refine ev_ ?_) <;> (try with_reducible exact ti_) <;> (try simp (disch := omega) only [qb, and_true, true_and])
     all_goals (simp only [qe3]; exact ⟨qci _ _, by rw [qhh]⟩)
    ·omega
  ·have hend : (l.map Pr.ty).take i = l.map Pr.ty := List.take_of_length_le (by rw [List.length_map]; omega)
   have hf := qbi7 (l.map Pr.ty)
   rw [hend, hfin]
   by_cases h0 : l.map Pr.ty = []
   ·rw [h0] at hf ⊢
    simp only [qc9, qbk, qbi]
    repeat' (first | refine vs_ ?_ | ((first | refine vr_ ?_ | fail) <;> (try simp only [qt, go_sem, ↓reduceIte])) | ((first | (refine cs_ ?_ ?_ <;> intro hc) | refine cj_ ?_ | simp (disch := omega) only [encs_getN, qb] | refine qa hf fun _ => ?_) <;> (try refine ev_ ?_)) | with_reducible exact ti_)
    all_goals omega
   ·simp only [qcf (qg2 h0), qb9 (qg2 h0), q6]
    repeat' (first | refine vs_ ?_ | ((first | refine vr_ ?_ | fail) <;> (try simp only [q6, go_sem, ↓reduceIte])) | ((first | (refine cs_ ?_ ?_ <;> intro hc) | refine cj_ ?_ | simp (disch := omega) only [encs_getN, qb] | refine qa hf fun _ => ?_) <;> (try refine ev_ ?_)) | with_reducible exact ti_)
    all_goals omega
set_option maxRecDepth 4000

theorem qk3 {l : List Pr} (hl : l.length ≤ maxLen) (h : fewR l = true) : l.length ≤ 30 ∧ smlR l := by
 rw [fewR, Bool.and_eq_true, decide_eq_true_eq] at h
 refine ⟨h.1, fun p hp => ?_⟩
 have := q7j (l := l.map Pr.ty) (by rw [List.length_map]; exact hl) h.2
 have hm : p.ty ∈ l.map Pr.ty := List.mem_map_of_mem hp
 have h1 := qga hm
 have h2 := qtz hm
 omega
section
variable {L : List Ent} {Q : List Ent → VO → Prop} {s t : List Pr}
theorem qno {l : List Pr} (hs : smlR l) (hl : l.length ≤ 100000) (hq : Q (L ++ [subE (newR l)]) (.val (.ptr L.length 0))) : VApp Try.prog L (.fn 33 [] []) [.sl 4 (qh l)] Q :=
 qg3 (qmw hs hl) rfl (by simp only [AV.bds, AV.bd, qbc, Bool.and_true]) hq
theorem qq4 (a : Nat) (hs : okS s) (hl : s.length ≤ 40000) (vars : List Int) (hq : Q (L ++ [subE (qdo vars s)]) (.val (.ptr L.length 0))) (h0 : ent L a = subE s := by rfl) (ha : a < L.length := by simp) : VApp Try.prog L (.fn 42 [] []) [.ptr a 0, .sl 1 (ints vars)] Q := by
 refine qc5 ?_
 rw [List.nil_append, List.append_nil]
 refine qb2 [a] (qqq hs hl vars) (by simp) ⟨⟨ha, rfl, by rw [h0]; rfl⟩, trivial⟩ (by simp only [AV.bds, AV.bd, qni, Bool.and_true]; rfl) (by simp only [AV.rens, AV.ren, qpx]; rfl) fun H1 o ho => ?_
 obtain ⟨rfl, rfl⟩ := ho
 have e1 : qgt L [a] [subE s, subE (qdo vars s)] = L ++ [subE (qdo vars s)] := by
  show (L.set a (subE s)) ++ [subE (qdo vars s)] = _
  rw [qdf h0 ha]
 rw [e1]
 simp only [VO.ren, AV.ren]
 show Q _ (.val (.ptr (L.length + (1 - 1)) 0))
 exact hq
theorem qph (a b : Nat) (hs : okS s) (ht : okS t) (h1 : s.length ≤ 40000) (h2 : t.length ≤ 40000) (hab : a ≠ b) (hq : if (behR s t).2 = 0 then Q (L ++ [subE (behR s t).1]) (.val (.tup [.ptr L.length 0, .int .i64 0])) else Q L (.val (.tup [.nilp, .int .i64 (behR s t).2])))
 (h0 : ent L a = subE s := by rfl) (h0' : ent L b = subE t := by rfl) (ha : a < L.length := by simp) (hb : b < L.length := by simp) : VApp Try.prog L (.fn 46 [] []) [.ptr a 0, .ptr b 0] Q := by
 refine qc5 ?_
 rw [List.nil_append, List.append_nil]
 refine qb2 [a, b] (qv6 hs ht h1 h2) (by simp [hab]) ⟨⟨ha, rfl, by rw [h0]; rfl⟩, ⟨hb, rfl, by rw [h0']; rfl⟩, trivial⟩ rfl (by rfl) fun H1 o ho => ?_
 have e0 : (L.set a (subE s)).set b (subE t) = L := by
  rw [qdf h0 ha, qdf h0' hb]
 rw [newQ] at ho
 split at ho
 ·rename_i he
  rw [if_pos he] at hq
  obtain ⟨rfl, rfl⟩ := ho
  have e1 : qgt L [a, b] ([subE s, subE t] ++ [subE (behR s t).1]) = L ++ [subE (behR s t).1] := by
   show ((L.set a (subE s)).set b (subE t)) ++ [subE (behR s t).1] = _
   rw [e0]
  rw [e1]
  show Q _ (.val (.tup [.ptr (L.length + (2 - 2)) 0, .int .i64 0]))
  exact hq
 ·rename_i he
  rw [if_neg he] at hq
  obtain ⟨rfl, rfl⟩ := ho
  have e1 : qgt L [a, b] [subE s, subE t] = L := by
   show ((L.set a (subE s)).set b (subE t)) ++ [] = _
   rw [e0, List.append_nil]
  rw [e1]
  exact hq
theorem qcp {f : FuncId} {e e' : Ent} {rest : List AV} {r : AV} (i : Nat) (h : VM Try.prog f e e' (.ptr 0 0 :: rest) r) (hrest : AV.bds 0 rest = true) (hr : r.bd 0 = true) (hq : Q (L.set i e') (.val r)) (hb : e.bd 0 = true := by rfl) (hb' : e'.bd 0 = true := by rfl) (hi : i < L.length := by simp) (he : ent L i = e := by rfl) :
 VApp Try.prog L (.fn f [] []) (.ptr i 0 :: rest) Q := by
 refine qcu i h hq hb hb' hi he hr ?_ ?_
 ·rw [List.append_nil, AV.rens, qo (m := 0) (fun j hj => by omega) rest hrest]; rfl
 ·rw [AV.bds, Bool.and_eq_true]
  exact ⟨rfl, qcb (Nat.zero_le _) _ hrest⟩
theorem qoj {l : List Pr} (hs : smlR l) (hl : l.length ≤ 100000) (e : newR l = s) (hq : Q (L ++ [subE s]) (.val (.ptr L.length 0))) : VApp Try.prog L (.fn 33 [] []) [.sl 4 (qh l)] Q := by
 subst e; exact qno hs hl hq
theorem qsm (a : Nat) (hs : okS s) (hl : s.length ≤ 40000) (vars : List Int) (e : qdo vars s = t) (hq : Q (L ++ [subE t]) (.val (.ptr L.length 0))) (h0 : ent L a = subE s := by rfl) (ha : a < L.length := by simp) : VApp Try.prog L (.fn 42 [] []) [.ptr a 0, .sl 1 (ints vars)] Q := by
 subst e; exact qq4 a hs hl vars hq h0 ha
theorem qu2 (a b : Nat) {r : List Pr} (hs : okS s) (ht : okS t) (h1 : s.length ≤ 40000) (h2 : t.length ≤ 40000) (hab : a ≠ b) (he : behR s t = (r, 0)) (hq : Q (L ++ [subE r]) (.val (.tup [.ptr L.length 0, .int .i64 0])))
 (h0 : ent L a = subE s := by rfl) (h0' : ent L b = subE t := by rfl) (ha : a < L.length := by simp) (hb : b < L.length := by simp) : VApp Try.prog L (.fn 46 [] []) [.ptr a 0, .ptr b 0] Q := by
 refine qph a b hs ht h1 h2 hab ?_ h0 h0' ha hb
 rw [he, if_pos rfl]
 exact hq
theorem q2t (a b : Nat) {r : List Pr} {e : Int} (hs : okS s) (ht : okS t) (h1 : s.length ≤ 40000) (h2 : t.length ≤ 40000) (hab : a ≠ b) (he : behR s t = (r, e)) (hne : e ≠ 0) (hq : Q L (.val (.tup [.nilp, .int .i64 e])))
 (h0 : ent L a = subE s := by rfl) (h0' : ent L b = subE t := by rfl) (ha : a < L.length := by simp) (hb : b < L.length := by simp) : VApp Try.prog L (.fn 46 [] []) [.ptr a 0, .ptr b 0] Q := by
 refine qph a b hs ht h1 h2 hab ?_ h0 h0' ha hb
 rw [he, if_neg hne]
 exact hq
theorem qw6 (hs : okS s) (hl : s.length ≤ 100000) {ty : Ty} (q1 : szY ty ≤ 20000) (q2 : dpY ty ≤ 300) : VM Try.prog 35 (subE s) (subE s) [.ptr 0 0, encY ty] (typA (appR s ty)) :=
 qmh (b := true) (R := bunR (subH s)) (fun v => qnj hs.1 hl v) hs q1 q2
end
def wT : Ty := ⟨[84], 0, []⟩
def wU : Ty := ⟨[85], 0, []⟩
def wV : Ty := ⟨[86], 0, []⟩
def wB : Ty := ⟨[], 1, []⟩
def wF : Ty := ⟨[45, 62], 0, [Y0, wB]⟩
def wR : Ty := ⟨[45, 62], 0, [wT, wB]⟩
def S1 : List Pr := [⟨0, wT⟩]
def S2 : List Pr := [⟨0, wT⟩, ⟨1, Y0⟩]
def S3 : List Pr := [⟨0, wV⟩]
def S4 : List Pr := [⟨0, wT⟩, ⟨1, wV⟩]
theorem w1 : newR [⟨0, wT⟩, ⟨0, wU⟩] = S1 := by rfl
theorem w3 : newR [⟨0, wV⟩] = S3 := by rfl
theorem S1_ok : okS S1 := w1 ▸ qhk _
theorem q62 : okS S3 := w3 ▸ qhk _
theorem w2 : setR S1 1 Y0 = (S2, 0) := by rfl
theorem qs5 : okS S2 := by have := qkc S1_ok 1 Y0; rwa [w2] at this
theorem w4 : behR S2 S3 = (S4, 0) := by rfl
theorem S4_ok : okS S4 := by have := qry qs5 q62; rwa [w4] at this
theorem k0 : VM Try.prog 35 (subE S1) (subE S1) [.ptr 0 0, encY wF] (.tup [encY wR, .int .i64 0]) := qw6 S1_ok (by decide) (ty := wF) (by decide) (by decide)
theorem k1 : VM Try.prog 45 (subE S1) (subE S1) [.ptr 0 0, .int .i64 0, encY wT] (.int .i64 6) := qd0 S1_ok.1 (by decide) 0 (t := wT) (by decide) (by decide)
theorem k2 : VM Try.prog 45 (subE S1) (subE S2) [.ptr 0 0, .int .i64 1, encY Y0] (.int .i64 0) := qd0 S1_ok.1 (by decide) 1 (t := Y0) (by decide) (by decide)
theorem k4 : VM Try.prog 37 (subE S4) (subE S4) [.ptr 0 0, .int .i64 1] (.tup [encY wV, .bool true]) := qnj S4_ok.1 (by decide) 1
theorem k5 : VM Try.prog 41 (subE S2) (subE S2) [.ptr 0 0] (.sl 4 (qh S2)) := qce (by decide) (qdh qs5)
theorem w6 : qdo [1] S2 = [⟨1, Y0⟩] := by rfl
theorem k6 : VM Try.prog 41 (subE [⟨1, Y0⟩]) (subE [⟨1, Y0⟩]) [.ptr 0 0] (.sl 4 (qh [⟨1, Y0⟩])) := qce (by decide) (qdh (by have := qxd qs5 [1]; rwa [w6] at this))
theorem k7 : qn Try.prog 75 [encY wR] (.str [84, 32, 45, 62, 32, 98]) := qqm (t := wR) (by decide) (by decide) (by decide)
theorem qhg : qn Try.prog 32 [] (.bool true) := by
 refine qd c0bd (by simp) rfl rfl fun hw => ?_
 have hv : wV.con = [86] := rfl
 have hl2 : (S2.length : Int) = 2 := rfl
 have hl1 : (([⟨1, Y0⟩] : List Pr).length : Int) = 1 := rfl
 repeat' (first | refine vs_ ?_ | ((first | refine vr_ ?_ | fail) <;> (try simp only [hv, hl2, hl1, go_sem, ↓reduceIte])) | ((first | (refine cs_ ?_ ?_ <;> intro hc) | refine cj_ ?_ | fail | refine qoj (l := [⟨0, wT⟩, ⟨0, wU⟩]) (fun p hp => by simp at hp; rcases hp with rfl | rfl <;> simp [wT, wU, szY, szYs, dpY, dpYs]) (by simp) w1 ?_ | refine qoj (l := [⟨0, wV⟩]) (qdh q62) (by simp) w3 ?_ | refine qcp 1 k0 rfl rfl ?_ | refine qcp 1 k1 rfl rfl ?_ | refine qcp 1 k2 rfl rfl ?_ | refine qu2 1 3 qs5 q62 (by decide) (by decide) (by decide) w4 ?_ | refine qcp 4 k4 rfl rfl ?_) <;> (try refine ev_ ?_)) | with_reducible exact ti_)
 repeat' (first | refine vs_ ?_ | ((first | refine vr_ ?_ | fail) <;> (try simp only [hv, hl2, hl1, go_sem, ↓reduceIte])) | ((first | (refine cs_ ?_ ?_ <;> intro hc) | refine cj_ ?_ | fail | refine qa k7 fun _ => ?_) <;> (try refine ev_ ?_)) | with_reducible exact ti_)
 repeat' (first | refine vs_ ?_ | ((first | refine vr_ ?_ | fail) <;> (try simp only [hl2, hl1, go_sem, ↓reduceIte])) | ((first | (refine cs_ ?_ ?_ <;> intro hc) | refine cj_ ?_ | fail | refine qcp 1 k5 rfl (by rfl) ?_) <;> (try refine ev_ ?_)) | with_reducible exact ti_)
 ·repeat' (first | refine vs_ ?_ | ((first | refine vr_ ?_ | refine qsm 1 qs5 (by decide) [1] w6 ?_ | (refine cs_ ?_ ?_ <;> intro hc) | refine cj_ ?_ | fail) <;> (try refine ev_ ?_)) | with_reducible exact ti_)
  repeat' (first | refine vs_ ?_ | ((first | refine vr_ ?_ | refine qcp 6 k6 rfl (by rfl) ?_ | (refine cs_ ?_ ?_ <;> intro hc) | refine cj_ ?_ | fail) <;> (try refine ev_ ?_)) | with_reducible exact ti_)
 ·exact absurd hl2 hc
set_option maxRecDepth 4000

theorem qb3 {l : List Pr} (h : fewR l = true) : qn Try.prog 30 [.sl 4 (qh l)] (.int .i64 1) := qe0 (qbdv l) (by rw [h]; rfl)
theorem qkb {l : List Pr} (h : fewR l = false) : qn Try.prog 30 [.sl 4 (qh l)] (.int .i64 0) := qe0 (qbdv l) (by rw [h]; rfl)
theorem qxj {s t : List Pr} (hs : okS s) (ht : okS t) : (behR s t).1.length ≤ s.length + t.length := by
 rw [qvf hs ht]
 split
 ·have h1 := qec t (qbf t [] s).1
  have h2 := qfp t s []
  simp only [List.length_nil] at h2
  simp only
  omega
 ·simp
set_option maxRecDepth 4000

theorem qq6 : qn Try.prog 41 [.nilp] (.sl 4 (qh [])) := by
 refine qd c0bb (by simp) rfl rfl fun hw => ?_
 repeat' (first | refine vs_ ?_ | ((first | refine vr_ ?_ | (refine cs_ ?_ ?_ <;> intro hc) | refine cj_ ?_ | simp (disch := omega) only [encs_getN, qb]) <;> (try refine ev_ ?_)) | with_reducible exact ti_)
 rfl
theorem qwy {p : Pr} (h : fewR [p] = true) : szY p.ty ≤ 20000 ∧ dpY p.ty ≤ 300 := (qk3 (by unfold maxLen; simp) h).2 p (by simp)
theorem qhd (l : List Pr) : qn Try.prog 40 [.sl 4 (qh l), .sl 4 (qh l)] (.bool true) := qe0 (qqn l l) (by rw [(qh0 l l).2 rfl])
theorem qmq {l : List Pr} (h : smlR l) : qpg l := h
theorem qz0 {t : Ty} {v : Int} : AV.bds 0 [.int .i64 v, encY t] = true := by simp only [AV.bds, AV.bd, qb5, Bool.and_true]
set_option maxHeartbeats 2000000 in
theorem qxo (a b : List Pr) (p : Pr) : qn Try.prog 7 [.sl 4 (qh a), .sl 4 (qh b), encR p] (.bool true) := by
 refine qd c0bc (by simp) (by simp only [AV.bds, AV.bd, qbc, qeu, Bool.and_true]) rfl fun hw => ?_
 have hla := (qcn hw.1).1
 have hlb := (qcn hw.2.1).1
 by_cases hfa : fewR a = true
 case neg =>
  have hfa : fewR a = false := by simpa using hfa
  repeat' (first | refine vs_ ?_ | ((first | refine vr_ ?_ | refine qa (qkb hfa) fun _ => ?_ | refine qa qhg fun _ => ?_ | (refine cs_ ?_ ?_ <;> intro hc) | refine cj_ ?_ | fail) <;> (try refine ev_ ?_)) | with_reducible exact ti_)
 by_cases hfb : fewR b = true
 case neg =>
  have hfb : fewR b = false := by simpa using hfb
  repeat' (first | refine vs_ ?_ | ((first | refine vr_ ?_ | refine qa (qb3 hfa) fun _ => ?_ | refine qa (qkb hfb) fun _ => ?_ | refine qa qhg fun _ => ?_ | (refine cs_ ?_ ?_ <;> intro hc) | refine cj_ ?_ | fail) <;> (try refine ev_ ?_)) | with_reducible exact ti_)
 by_cases hfp : fewR [p] = true
 case neg =>
  have hfp : fewR [p] = false := by simpa using hfp
  repeat' (first | refine vs_ ?_ | ((first | refine vr_ ?_ | refine qa (qb3 hfa) fun _ => ?_ | refine qa (qb3 hfb) fun _ => ?_ | refine qa (qkb hfp) fun _ => ?_ | refine qa qhg fun _ => ?_ | (refine cs_ ?_ ?_ <;> intro hc) | refine cj_ ?_ | fail) <;> (try refine ev_ ?_)) | with_reducible exact ti_)
 obtain ⟨ha1, ha2⟩ := qk3 hla hfa
 obtain ⟨hb1', hb2'⟩ := qk3 hlb hfb
 obtain ⟨hp1, hp2⟩ := qwy hfp
 have hS := qhk a
 have hT := qhk b
 have hSl := qj0 a
 have hTl := qj0 b
 have hR1 := ql0 (l := a) (by omega) (qmq ha2)
 have hR2 := ql0 (l := b) (by omega) (qmq hb2')
 obtain ⟨S, hnS⟩ : ∃ S, newR a = S := ⟨_, rfl⟩
 rw [hnS] at hS hSl hR1
 have hset := qd0 hS.1 (by omega) p.v hp1 hp2
 have hR3 := qh5 (s := S) (v := p.v) (t := p.ty) (by omega) hp1 hp2
 have hU := qkc hS p.v p.ty
 have hUl := qj8 S p.v p.ty
 have hra : rowA (setR S p.v p.ty) = .tup [.sl 4 (qh (setR S p.v p.ty).1), .int .i64 (setR S p.v p.ty).2] := rfl
 rw [hra] at hR3
 generalize (setR S p.v p.ty).1 = U at hset hR3 hU hUl
 generalize (setR S p.v p.ty).2 = e at hset hR3
 have hPU := qce (s := U) (by omega) (qdh hU)
 have hR4 := qp2 hU hT (by omega) (by omega)
 have hrU := qhd U
 have hb1 : AV.bd 0 (.sl 4 (qh U)) = true := by simp only [AV.bd, qbc]
 have hrb : ∀ p : List Pr × Int, rowA p = .tup [.sl 4 (qh p.1), .int .i64 p.2] := fun _ => rfl
 rw [hrb] at hR4
 by_cases he : (behR U (newR b)).2 = 0
 ·have he' : behR U (newR b) = ((behR U (newR b)).1, 0) := by rw [← he]
  have hB := qry hU hT
  have hBl := qxj hU hT
  rw [he] at hR4
  generalize (behR U (newR b)).1 = B at he' hB hBl hR4
  have hPB := qce (s := B) (by omega) (qdh hB)
  have hrB := qhd B
  have hb2 : AV.bd 0 (.sl 4 (qh B)) = true := by simp only [AV.bd, qbc]
  repeat' (first | refine vs_ ?_ | ((first | refine vr_ ?_ | refine qa (qb3 hfa) fun _ => ?_ | refine qa (qb3 hfb) fun _ => ?_ | refine qa (qb3 hfp) fun _ => ?_ | refine qa qhg fun _ => ?_ | refine qa hR1 fun _ => ?_ | refine qa hR2 fun _ => ?_ | refine qa hR3 fun _ => ?_ | refine qa hR4 fun _ => ?_ | refine qa hrU fun _ => ?_ | refine qa hrB fun _ => ?_ | refine qoj ha2 (by omega) hnS ?_ | refine qno hb2' (by omega) ?_ | refine qcp 1 hset qz0 rfl ?_ | refine qcp 1 hPU rfl hb1 ?_ | refine qu2 1 2 hU hT (by omega) (by omega) (by decide) he' ?_ | refine qcp 3 hPB rfl hb2 ?_ | (refine cs_ ?_ ?_ <;> intro hc) | refine cj_ ?_ | fail) <;> (try refine ev_ ?_)) | with_reducible exact ti_)
  all_goals (exfalso; revert hc; simp)
 ·have he' : behR U (newR b) = ([], (behR U (newR b)).2) := by rw [behR, if_neg]; intro h; exact he (by rw [behR, if_pos h])
  rw [he'] at hR4
  generalize (behR U (newR b)).2 = e2 at he' he hR4
  have hd2 : decide (e2 = 0) = false := decide_eq_false he
  repeat' (first | refine vs_ ?_ | ((first | refine vr_ ?_ | fail) <;> (try simp only [hd2, go_sem, ↓reduceIte])) | ((first | (refine cs_ ?_ ?_ <;> intro hc) | refine cj_ ?_ | fail | refine qa (qb3 hfa) fun _ => ?_ | refine qa (qb3 hfb) fun _ => ?_ | refine qa (qb3 hfp) fun _ => ?_ | refine qa qhg fun _ => ?_ | refine qa hR1 fun _ => ?_ | refine qa hR2 fun _ => ?_ | refine qa hR3 fun _ => ?_ | refine qa hR4 fun _ => ?_ | refine qa hrU fun _ => ?_ | refine qa (qhd []) fun _ => ?_ | refine qa qq6 fun _ => ?_ | refine qoj ha2 (by omega) hnS ?_ | refine qno hb2' (by omega) ?_ | refine qcp 1 hset qz0 rfl ?_ | refine qcp 1 hPU rfl hb1 ?_ | refine q2t 1 2 hU hT (by omega) (by omega) (by decide) he' he ?_) <;> (try refine ev_ ?_)) | with_reducible exact ti_)
  all_goals (exfalso; revert hc; simp)
end Go.Proofs.Ytfpobiheiloamaa
