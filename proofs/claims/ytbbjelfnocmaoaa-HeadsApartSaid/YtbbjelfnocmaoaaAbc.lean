/- Texts of this proof, joined. -/
import Derived.Test.YtbbjelfnocmaoaaAbb
import Derived.Test.YtbbjelfnocmaoaaAav

/- substitutions: new ones, types and their pairs -/
set_option maxRecDepth 4000
namespace Go.Proofs.Ytbbjelfnocmaoaa
open Go Go.RowKit Go.V
set_option linter.unusedVariables false
set_option linter.unusedSimpArgs false

theorem qq2 {l : List Pr} {i : Nat} (h : i < l.length) : l.take (i + 1) = l.take i ++ [l.getD i R0] := by
 rw [List.take_add_one, List.getD_eq_getElem?_getD, List.getElem?_eq_getElem h]; rfl
def smlR (l : List Pr) : Prop := ∀ p ∈ l, szY p.ty ≤ 20000 ∧ dpY p.ty ≤ 300
theorem qut {l : List Pr} (hs : smlR l) (hl : l.length ≤ 100000) : VCalls Try.prog 15 [] [.sl 4 (qci l)] fun H' o => H' = [subE (newR l)] ∧ o = .val (.ptr 0 0) := by
 refine qn c0l 1 (by simp) (by simp) ?_
 repeat' (first | refine vs_ ?_ | ((first | refine vr_ ?_ | (refine cs_ ?_ ?_ <;> intro hc) | refine cj_ ?_ | simp (disch := omega) only [encs_getN, qb]) <;> (try refine ev_ ?_)) | with_reducible exact ti_)
 refine q60 0 rfl rfl ?_
 refine qz (S := Nat) (fun i => i ≤ l.length) (fun i => (⟨[(3, .ptr 0 0), (8, .sl 4 (qci l)), (9, .int .i64 l.length), (10, .int .i64 i)], []⟩, [subE (newR (l.take i))])) (fun i => l.length - i) ?_ fun i hi => ?_
 ·refine qp 0 [0] (Nat.zero_le _) rfl (by simp) ?_ ?_ ?_ <;> simp only [List.take_zero, newR, addR, qj0] <;> (try refine ev_ ?_) <;> (try with_reducible exact ti_) <;> (try simp (disch := omega) only [qb, and_true, true_and])
  all_goals rfl
 ·by_cases hlt : i < l.length
  ·have hok := qnl (l.take i)
   have hln := qxr (l.take i)
   rw [List.length_take] at hln
   have hm := hs _ (qoq hlt)
   have hn : newR (l.take (i + 1)) = (setR (newR (l.take i)) (l.getD i R0).v (l.getD i R0).ty).1 := by rw [qq2 hlt, newR, qla]; rfl
   have hp := qeb hlt
   repeat' (first | refine vs_ ?_ | ((first | refine vr_ ?_ | fail) <;> (try simp (disch := first | omega | (simp only [List.length_set, List.length_append, List.length_cons, List.length_nil]; done) | (simp only [List.length_set, List.length_append, List.length_cons, List.length_nil]; omega)) only [hp, qb, go_sem, ↓reduceIte])) | ((first | simp (disch := omega) only [hp] | (refine cs_ ?_ ?_ <;> intro hc) | refine cj_ ?_ | simp (disch := omega) only [encs_getN, qb] | refine qbr 0 (qj8 hok.1 (by omega) _ hm.1 hm.2) ?_) <;> (try refine ev_ ?_)) | with_reducible exact ti_)
   ·refine qp (i + 1) [0] ⟨by omega, by omega⟩ rfl (by simp) ?_ ?_ ?_ <;> simp only [hn] <;> (try refine ev_ ?_) <;> (try with_reducible exact ti_) <;> (try simp (disch := omega) only [qb, and_true, true_and])
    all_goals rw [qq (by omega) (by omega), Int.natCast_add]; rfl
   ·exfalso; omega
  ·have hie : i = l.length := by omega
   subst hie
   rw [List.take_length]
   repeat' (first | refine vs_ ?_ | ((first | refine vr_ ?_ | (refine cs_ ?_ ?_ <;> intro hc) | refine cj_ ?_ | simp (disch := omega) only [encs_getN, qb]) <;> (try refine ev_ ?_)) | with_reducible exact ti_)
   all_goals (exfalso; omega)
set_option maxRecDepth 4000

theorem qs4 {R : World → (Nat → Nat → Prop) → Gh → Prop} {b : Bool} {s : List Pr} (hG : ∀ v, VM Try.prog 59 (.cus R) (.cus R) [svA b 0, .int .i64 v] (getV s v)) (hs : okS s) {t : Ty} (h1 : szY t ≤ 20000) (h2 : dpY t ≤ 300) :
 VM Try.prog 27 (.cus R) (.cus R) [svA b 0, encY t] (typA (appR s t)) := by
 refine qn c0k 1 (by simp) (by simp) ?_
 have hLg := qb3 h1 h2
 rw [← q2h hs]
 by_cases hlg : q6 t = true
 ·obtain ⟨q1, q2, q3⟩ := (qbc t).1 hlg
  have hput := q2j hG (q7k hs) t (qdb t q3) h1 4096 1 (by omega) (by omega) (by omega) (by omega)
  rw [hlg] at hLg
  by_cases hn : (bput s t 4096 1).1 < 0
  ·have hnd : decide ((bput s t 4096 1).1 < 0) = true := decide_eq_true hn
   rw [appP, if_pos hlg, if_pos hn]
   repeat' (first | refine vs_ ?_ | ((first | refine vr_ ?_ | fail) <;> (try simp only [hnd, go_sem, ↓reduceIte])) | ((first | (refine cs_ ?_ ?_ <;> intro hc) | refine cj_ ?_ | fail | refine qa hLg fun _ => ?_ | refine qn0 3 0 hput (by simp) ?_) <;> (try refine ev_ ?_)) | with_reducible exact ti_)
   all_goals rfl
  ·have hnd : decide ((bput s t 4096 1).1 < 0) = false := decide_eq_false hn
   rw [appP, if_pos hlg, if_neg hn]
   repeat' (first | refine vs_ ?_ | ((first | refine vr_ ?_ | fail) <;> (try simp only [hnd, go_sem, ↓reduceIte])) | ((first | (refine cs_ ?_ ?_ <;> intro hc) | refine cj_ ?_ | fail | refine qa hLg fun _ => ?_ | refine qn0 3 0 hput (by simp) ?_) <;> (try refine ev_ ?_)) | with_reducible exact ti_)
   all_goals rfl
 ·rw [appP, if_neg hlg]
  have hlg : q6 t = false := by simpa using hlg
  rw [hlg] at hLg
  repeat' (first | refine vs_ ?_ | ((first | refine vr_ ?_ | refine qa hLg fun _ => ?_ | (refine cs_ ?_ ?_ <;> intro hc) | refine cj_ ?_ | fail) <;> (try refine ev_ ?_)) | with_reducible exact ti_)
  all_goals rfl


section
variable {P : Program} {f : FuncId} {e : Ent} {L : List Ent} {args : List AV} {Q : List Ent → VO → Prop}
theorem qw4 (h : VCalls P f [] args fun H' o => H' = [e] ∧ o = .val (.ptr 0 0)) (hb : e.bd 0 = true) (ha : AV.bds 0 args = true) (hq : Q (L ++ [e]) (.val (.ptr L.length 0))) : VApp P L (.fn f [] []) args Q := by
 refine qyo h ha fun H1 o ho => ?_
 obtain ⟨rfl, rfl⟩ := ho
 have e1 : qir L [] [e] = L ++ [e] := by
  show L ++ [e.ren _] = _
  rw [Ent.ren_bd0 hb]
 rw [e1]
 exact hq
end
theorem qye : VCalls Try.prog 15 [] [.sl 4 []] fun H' o => H' = [subE []] ∧ o = .val (.ptr 0 0) := qut (l := []) (fun p hp => by simp at hp) (by simp)



section
variable {L : List Ent} {Q : List Ent → VO → Prop} {s t : List Pr}
theorem qfx {f : FuncId} {e e' : Ent} {rest : List AV} {r : AV} (i : Nat) (h : VM Try.prog f e e' (.ptr 0 0 :: rest) r) (hrest : AV.bds 0 rest = true) (hr : r.bd 0 = true) (hq : Q (L.set i e') (.val r)) (hb : e.bd 0 = true := by rfl) (hb' : e'.bd 0 = true := by rfl) (hi : i < L.length := by simp) (he : ent L i = e := by rfl) :
 VApp Try.prog L (.fn f [] []) (.ptr i 0 :: rest) Q := by
 refine qbr i h hq hb hb' hi he hr ?_ ?_
 ·rw [List.append_nil, AV.rens, qj (m := 0) (fun j hj => by omega) rest hrest]; rfl
 ·rw [AV.bds, Bool.and_eq_true]
  exact ⟨rfl, qb2 (Nat.zero_le _) _ hrest⟩
theorem qxd (hs : okS s) (hl : s.length ≤ 100000) {ty : Ty} (q1 : szY ty ≤ 20000) (q2 : dpY ty ≤ 300) : VM Try.prog 27 (subE s) (subE s) [.ptr 0 0, encY ty] (typA (appR s ty)) :=
 qs4 (b := true) (R := bunR (subH s)) (fun v => qr6 hs.1 hl v) hs q1 q2
end
def wT : Ty := ⟨[84], 0, []⟩
def wU : Ty := ⟨[85], 0, []⟩
def wV : Ty := ⟨[86], 0, []⟩
def wB : Ty := ⟨[], 1, []⟩
def wR : Ty := ⟨[45, 62], 0, [wT, wB]⟩
def S1 : List Pr := [⟨0, wT⟩]
def S2 : List Pr := [⟨0, wT⟩, ⟨1, Y0⟩]
def S3 : List Pr := [⟨0, wV⟩]
def S4 : List Pr := [⟨0, wT⟩, ⟨1, wV⟩]
theorem w1 : newR [⟨0, wT⟩, ⟨0, wU⟩] = S1 := by rfl
theorem w3 : newR [⟨0, wV⟩] = S3 := by rfl
theorem S1_ok : okS S1 := w1 ▸ qnl _
theorem qbh4 : okS S3 := w3 ▸ qnl _
theorem w2 : setR S1 1 Y0 = (S2, 0) := by rfl
theorem qbhp : okS S2 := by have := qm5 S1_ok 1 Y0; rwa [w2] at this
theorem w4 : behR S2 S3 = (S4, 0) := by rfl
theorem S4_ok : okS S4 := by have := q0t qbhp qbh4; rwa [w4] at this
theorem k1 : VM Try.prog 16 (subE S1) (subE S1) [.ptr 0 0, .int .i64 0, encY wT] (.int .i64 6) := qj8 S1_ok.1 (by decide) 0 (t := wT) (by decide) (by decide)
theorem k2 : VM Try.prog 16 (subE S1) (subE S2) [.ptr 0 0, .int .i64 1, encY Y0] (.int .i64 0) := qj8 S1_ok.1 (by decide) 1 (t := Y0) (by decide) (by decide)
theorem k4 : VM Try.prog 59 (subE S4) (subE S4) [.ptr 0 0, .int .i64 1] (.tup [encY wV, .bool true]) := qr6 S4_ok.1 (by decide) 1
theorem k7 : qk Try.prog 19 [encY wR] (.str [84, 32, 45, 62, 32, 98]) := qee (t := wR) (by decide) (by decide) (by decide)

theorem qsz {l : List Ty} (h : qel l = true) : qk Try.prog 6 [.sl 3 (ql l)] (.int .i64 1) := qcq (q44 l) (by rw [h]; rfl)
theorem qzh {l : List Ty} (h : qel l = false) : qk Try.prog 6 [.sl 3 (ql l)] (.int .i64 0) := qcq (q44 l) (by rw [h]; rfl)

set_option maxRecDepth 4000



set_option maxRecDepth 4000

def prdR (s : List Pr) : List Pd → List Pd → List Pd × Int
 | acc, [] => (acc, 0)
 | acc, p :: r => if (appR s p.ty).2 = 0 then prdR s (acc ++ [⟨p.cls, (appR s p.ty).1⟩]) r else ([], (appR s p.ty).2)
theorem qj3 (s : List Pr) (b : List Pd) : ∀ (a acc : List Pd), (prdR s acc a).2 = 0 → prdR s acc (a ++ b) = prdR s (prdR s acc a).1 b
 | [], acc, _ => rfl
 | p :: r, acc, h => by
   rw [prdR] at h
   rw [List.cons_append, prdR, prdR]
   split at h
   ·rename_i h0
    rw [if_pos h0, if_pos h0, qj3 s b r _ h]
   ·rename_i h0
    exact absurd h h0
theorem qpg (s : List Pr) : ∀ (a acc : List Pd), (prdR s acc a).2 = 0 → (prdR s acc a).1.length = acc.length + a.length
 | [], acc, _ => by simp [prdR]
 | p :: r, acc, h => by
   rw [prdR] at h ⊢
   split at h
   ·rename_i h0
    rw [if_pos h0, qpg s r _ h, List.length_append, List.length_cons, List.length_cons]
    simp; omega
   ·rename_i h0
    exact absurd h h0
theorem qi7 {l : List Pd} {i : Nat} (h : i < l.length) : l.take (i + 1) = l.take i ++ [l.getD i P0] := by
 rw [List.take_add_one, List.getD_eq_getElem?_getD, List.getElem?_eq_getElem h]; rfl
theorem q3x {s : List Pr} {l : List Pd} {i : Nat} (h : i < l.length) (h0 : (prdR s [] (l.take i)).2 = 0) (ha : (appR s (l.getD i P0).ty).2 = 0) : prdR s [] (l.take (i + 1)) = ((prdR s [] (l.take i)).1 ++ [⟨(l.getD i P0).cls, (appR s (l.getD i P0).ty).1⟩], 0) := by
 rw [qi7 h, qj3 s _ _ _ h0, prdR, if_pos ha, prdR]
theorem qr4 {s : List Pr} {l : List Pd} {i : Nat} (h : i < l.length) (h0 : (prdR s [] (l.take i)).2 = 0) (ha : (appR s (l.getD i P0).ty).2 ≠ 0) : prdR s [] l = ([], (appR s (l.getD i P0).ty).2) := by
 have := qj3 s (l.drop i) (l.take i) [] h0
 rw [List.take_append_drop, qbhr h] at this
 rw [this, prdR, if_neg ha]
def prdA (p : List Pd × Int) : AV := .tup [.sl 4 (q7 p.1), .int .i64 p.2]
theorem q8z (k : Nat) (p : List Pd × Int) : (prdA p).bd k = true := by simp only [prdA, AV.bd, AV.bds, qdl, Bool.and_true]
def ppSt (s : List Pr) (l : List Pd) (i : Nat) : AF × List Ent :=
 (⟨[(0, .ptr 0 0), (6, accV 1 (q7 (prdR s [] (l.take i)).1)), (11, .sl 4 (q7 l)), (12, .int .i64 l.length), (13, .int .i64 i)], []⟩, subE s :: accE 4 (q7 (prdR s [] (l.take i)).1))
set_option maxHeartbeats 1000000 in
theorem quu {s : List Pr} (hs : okS s) (hsl : s.length ≤ 100000) {l : List Pd} (hl : l.length ≤ 1000) (hp : ∀ p ∈ l, szY p.ty ≤ 20000 ∧ dpY p.ty ≤ 300) : VM Try.prog 17 (subE s) (subE s) [.ptr 0 0, .sl 4 (q7 l)] (prdA (prdR s [] l)) := by
 refine qn c0j 1 (by simp) (by simp) ?_
 repeat' (first | refine vs_ ?_ | ((first | refine vr_ ?_ | (refine cs_ ?_ ?_ <;> intro hc) | refine cj_ ?_ | simp (disch := omega) only [encs_getN, qb]) <;> (try refine ev_ ?_)) | with_reducible exact ti_)
 refine qz (S := Nat) (fun i => i ≤ l.length ∧ (prdR s [] (l.take i)).2 = 0) (ppSt s l) (fun i => l.length - i) ?_ fun i hi => ?_
 ·refine qp 0 [0] ⟨Nat.zero_le _, rfl⟩ rfl (by simp) ?_ ?_ ?_ <;> simp only [ppSt, List.take_zero, prdR, qe5, qbe, qbd] <;> (try refine ev_ ?_) <;> (try with_reducible exact ti_) <;> (try simp (disch := omega) only [qb, and_true, true_and])
 ·obtain ⟨hi, h0⟩ := hi
  have hal := qpg s (l.take i) [] h0
  rw [List.length_take, List.length_nil, Nat.zero_add, Nat.min_eq_left hi] at hal
  unfold ppSt
  by_cases hlt : i < l.length
  ·have hg := qcg hlt
   obtain ⟨m1, m2⟩ := hp _ (qkt hlt)
   have hby : ∀ t, AV.bds 0 [encY t] = true := fun t => by simp only [AV.bds, qbv, Bool.and_true]
   have hA := qxd hs hsl m1 m2
   have hT : typA (appR s (l.getD i P0).ty) = .tup [encY (appR s (l.getD i P0).ty).1, .int .i64 (appR s (l.getD i P0).ty).2] := rfl
   rw [hT] at hA
   have hb1 : AV.bd 0 (.tup [encY (appR s (l.getD i P0).ty).1, .int .i64 (appR s (l.getD i P0).ty).2]) = true := q54 0 _
   by_cases ha : (appR s (l.getD i P0).ty).2 = 0
   ·have hn := q3x hlt h0 ha
    rw [ha] at hA hb1
    obtain ⟨B, hB⟩ : ∃ B, (prdR s [] (l.take i)).1 = B := ⟨_, rfl⟩
    rw [hB] at hn hal ⊢
    by_cases hz : B = []
    ·subst hz
     simp only [qe5, qbe, qbd]
     repeat' (first | refine vs_ ?_ | ((first | refine vr_ ?_ | fail) <;> (try simp (disch := first | omega | (simp only [List.length_set, List.length_append, List.length_cons, List.length_nil]; done) | (simp only [List.length_set, List.length_append, List.length_cons, List.length_nil]; omega)) only [hg, qb, go_sem, ↓reduceIte])) | ((first | simp (disch := omega) only [hg] | simp (disch := omega) only [(show qcl 1 64 = True from eq_true (by unfold qcl; omega))] | (refine cs_ ?_ ?_ <;> intro hc) | refine cj_ ?_ | simp (disch := omega) only [encs_getN, qb] | refine qfx 0 hA (hby _) hb1 ?_) <;> (try refine ev_ ?_)) | with_reducible exact ti_)
     ·refine qp (i + 1) [0, 3] ⟨⟨by omega, by rw [hn]⟩, by omega⟩ rfl (by simp) ?_ ?_ ?_ <;> simp only [ppSt, hn, List.nil_append, ← qtm, qfp, qfk] <;> (try refine ev_ ?_) <;> (try with_reducible exact ti_) <;> (try simp (disch := omega) only [qb, and_true, true_and])
      ·rfl
      ·rw [qq (by omega) (by omega), Int.natCast_add]; rfl
     ·exfalso; omega
    ·have hne := qj7 hz
     simp only [qcy hne, qc0 hne, qb4]
     have hcap : qcl (B.length + 1) 64 = True := eq_true (by unfold qcl; omega)
     repeat' (first | refine vs_ ?_ | ((first | refine vr_ ?_ | fail) <;> (try simp (disch := first | omega | (simp only [List.length_set, List.length_append, List.length_cons, List.length_nil]; done) | (simp only [List.length_set, List.length_append, List.length_cons, List.length_nil]; omega)) only [hg, qb, qb4, go_sem, ↓reduceIte])) | ((first | simp (disch := omega) only [hg] | simp (disch := omega) only [hcap] | (refine cs_ ?_ ?_ <;> intro hc) | refine cj_ ?_ | simp (disch := omega) only [encs_getN, qb] | refine qfx 0 hA (hby _) hb1 ?_) <;> (try refine ev_ ?_)) | with_reducible exact ti_)
     ·refine qp (i + 1) [0, 4] ⟨⟨by omega, by rw [hn]⟩, by omega⟩ rfl (by simp) ?_ ?_ ?_ <;> simp only [ppSt, hn, ← qf4, qdw, qd1, qb4] <;> (try refine ev_ ?_) <;> (try with_reducible exact ti_) <;> (try simp (disch := omega) only [qb, and_true, true_and])
      ·rw [qf4, qll]; exact ⟨qdl _ _, congrArg (Ent.app 4) (qf4 B ⟨(l.getD i P0).cls, (appR s (l.getD i P0).ty).1⟩)⟩
      ·rw [qq (by omega) (by omega), Int.natCast_add]; rfl
     ·exfalso; omega
   ·have had : decide ((appR s (l.getD i P0).ty).2 = 0) = false := decide_eq_false ha
    have hstop := qr4 hlt h0 ha
    rw [hstop]
    obtain ⟨B, hB⟩ : ∃ B, (prdR s [] (l.take i)).1 = B := ⟨_, rfl⟩
    rw [hB]
    by_cases hz : B = []
    ·subst hz
     simp only [qe5, qbe, qbd]
     repeat' (first | refine vs_ ?_ | ((first | refine vr_ ?_ | fail) <;> (try simp (disch := first | omega | (simp only [List.length_set, List.length_append, List.length_cons, List.length_nil]; done) | (simp only [List.length_set, List.length_append, List.length_cons, List.length_nil]; omega)) only [hg, qb, had, go_sem, ↓reduceIte])) | ((first | simp (disch := omega) only [hg] | (refine cs_ ?_ ?_ <;> intro hc) | refine cj_ ?_ | simp (disch := omega) only [encs_getN, qb] | refine qfx 0 hA (hby _) hb1 ?_) <;> (try refine ev_ ?_)) | with_reducible exact ti_)
     ·rfl
     ·exfalso; omega
    ·have hne := qj7 hz
     simp only [qcy hne, qc0 hne, qb4]
     repeat' (first | refine vs_ ?_ | ((first | refine vr_ ?_ | fail) <;> (try simp (disch := first | omega | (simp only [List.length_set, List.length_append, List.length_cons, List.length_nil]; done) | (simp only [List.length_set, List.length_append, List.length_cons, List.length_nil]; omega)) only [hg, qb, had, go_sem, ↓reduceIte])) | ((first | simp (disch := omega) only [hg] | (refine cs_ ?_ ?_ <;> intro hc) | refine cj_ ?_ | simp (disch := omega) only [encs_getN, qb] | refine qfx 0 hA (hby _) hb1 ?_) <;> (try refine ev_ ?_)) | with_reducible exact ti_)
     ·rfl
     ·exfalso; omega
  ·have hti : l.take i = l := List.take_of_length_le (by omega)
   rw [hti] at h0 ⊢
   have he : prdR s [] l = ((prdR s [] l).1, 0) := by rw [← h0]
   rw [he]
   generalize (prdR s [] l).1 = B
   by_cases hz : B = []
   ·subst hz
    simp only [qe5, qbe, qbd]
    repeat' (first | refine vs_ ?_ | ((first | refine vr_ ?_ | fail) <;> (try simp only [qch, go_sem, ↓reduceIte])) | ((first | (refine cs_ ?_ ?_ <;> intro hc) | refine cj_ ?_ | simp (disch := omega) only [encs_getN, qb]) <;> (try refine ev_ ?_)) | with_reducible exact ti_)
    ·exfalso; omega
    ·rfl
   ·have hne := qj7 hz
    simp only [qcy hne, qc0 hne, qb4]
    repeat' (first | refine vs_ ?_ | ((first | refine vr_ ?_ | fail) <;> (try simp only [qb4, go_sem, ↓reduceIte])) | ((first | (refine cs_ ?_ ?_ <;> intro hc) | refine cj_ ?_ | simp (disch := omega) only [encs_getN, qb]) <;> (try refine ev_ ?_)) | with_reducible exact ti_)
    ·exfalso; omega
    ·rfl
end Go.Proofs.Ytbbjelfnocmaoaa
