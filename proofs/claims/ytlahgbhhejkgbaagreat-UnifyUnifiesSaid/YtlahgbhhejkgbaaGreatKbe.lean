/- Texts of this proof, joined. -/
import Derived.Test.YtlahgbhhejkgbaaGreatKbc
import Derived.Test.YtlahgbhhejkgbaaGreatKbd
import Derived.Test.YtlahgbhhejkgbaaGreatKaw

/- substitutions: new ones, types and their pairs -/
set_option maxRecDepth 4000
namespace Go.Proofs.YtlahgbhhejkgbaaGreat
open Go Go.RowKit Go.V
set_option linter.unusedVariables false
set_option linter.unusedSimpArgs false

theorem qhs {l : List Pr} {i : Nat} (h : i < l.length) : l.take (i + 1) = l.take i ++ [l.getD i R0] := by
 rw [List.take_add_one, List.getD_eq_getElem?_getD, List.getElem?_eq_getElem h]; rfl
def smlR (l : List Pr) : Prop := ∀ p ∈ l, szY p.ty ≤ 20000 ∧ dpY p.ty ≤ 300
theorem qo5 {l : List Pr} (hs : smlR l) (hl : l.length ≤ 100000) : VCalls Tryz.prog 18 [] [.sl 4 (qs l)] fun H' o => H' = [subE (newR l)] ∧ o = .val (.ptr 0 0) := by
 refine qf c0t 1 (by simp) (by simp) ?_
 repeat' (first | refine vs_ ?_ | ((first | refine vr_ ?_ | (refine cs_ ?_ ?_ <;> intro hc) | refine cj_ ?_ | simp (disch := omega) only [encs_getN, qb]) <;> (try refine ev_ ?_)) | with_reducible exact ti_)
 refine qqv 0 rfl rfl ?_
 refine qq (S := Nat) (fun i => i ≤ l.length) (fun i => (⟨[(3, .ptr 0 0), (8, .sl 4 (qs l)), (9, .int .i64 l.length), (10, .int .i64 i)], []⟩, [subE (newR (l.take i))])) (fun i => l.length - i) ?_ fun i hi => ?_
 ·refine qi 0 [0] (Nat.zero_le _) rfl (by simp) ?_ ?_ ?_ <;> simp only [List.take_zero, newR, addR, qiy] <;> (try refine ev_ ?_) <;> (try with_reducible exact ti_) <;> (try simp (disch := omega) only [qb, and_true, true_and])
  all_goals rfl
 ·by_cases hlt : i < l.length
  ·have hok := qrp (l.take i)
   have hln := q4a (l.take i)
   rw [List.length_take] at hln
   have hm := hs _ (qdv hlt)
   have hn : newR (l.take (i + 1)) = (setR (newR (l.take i)) (l.getD i R0).v (l.getD i R0).ty).1 := by rw [qhs hlt, newR, qjx]; rfl
   have hp := ql hlt
   repeat' (first | refine vs_ ?_ | ((first | refine vr_ ?_ | fail) <;> (try simp (disch := first | omega | (simp only [List.length_set, List.length_append, List.length_cons, List.length_nil]; done) | (simp only [List.length_set, List.length_append, List.length_cons, List.length_nil]; omega)) only [hp, qb, go_sem, ↓reduceIte])) | ((first | simp (disch := omega) only [hp] | (refine cs_ ?_ ?_ <;> intro hc) | refine cj_ ?_ | simp (disch := omega) only [encs_getN, qb] | refine qbq 0 (qf7 hok.1 (by omega) _ hm.1 hm.2) ?_) <;> (try refine ev_ ?_)) | with_reducible exact ti_)
   ·refine qi (i + 1) [0] ⟨by omega, by omega⟩ rfl (by simp) ?_ ?_ ?_ <;> simp only [hn] <;> (try refine ev_ ?_) <;> (try with_reducible exact ti_) <;> (try simp (disch := omega) only [qb, and_true, true_and])
    all_goals rw [qw (by omega) (by omega), Int.natCast_add]; rfl
   ·exfalso; omega
  ·have hie : i = l.length := by omega
   subst hie
   rw [List.take_length]
   repeat' (first | refine vs_ ?_ | ((first | refine vr_ ?_ | (refine cs_ ?_ ?_ <;> intro hc) | refine cj_ ?_ | simp (disch := omega) only [encs_getN, qb]) <;> (try refine ev_ ?_)) | with_reducible exact ti_)
   all_goals (exfalso; omega)
set_option maxRecDepth 4000

theorem qoq {R : World → (Nat → Nat → Prop) → Gh → Prop} {b : Bool} {s : List Pr} (hG : ∀ v, VM Tryz.prog 25 (.cus R) (.cus R) [svA b 0, .int .i64 v] (getV s v)) (hs : okS s) {t : Ty} (h1 : szY t ≤ 20000) (h2 : dpY t ≤ 300) :
 VM Tryz.prog 19 (.cus R) (.cus R) [svA b 0, encY t] (typA (appR s t)) := by
 refine qf c0s 1 (by simp) (by simp) ?_
 have hLg := qc0 h1 h2
 rw [← qblh hs]
 by_cases hlg : qd t = true
 ·obtain ⟨q1, q2, q3⟩ := (qp t).1 hlg
  have hput := qbiy hG (qmy hs) t (qcs t q3) h1 4096 1 (by omega) (by omega) (by omega) (by omega)
  rw [hlg] at hLg
  by_cases hn : (bput s t 4096 1).1 < 0
  ·have hnd : decide ((bput s t 4096 1).1 < 0) = true := decide_eq_true hn
   rw [appP, if_pos hlg, if_pos hn]
   repeat' (first | refine vs_ ?_ | ((first | refine vr_ ?_ | fail) <;> (try simp only [hnd, go_sem, ↓reduceIte])) | ((first | (refine cs_ ?_ ?_ <;> intro hc) | refine cj_ ?_ | fail | refine qa hLg fun _ => ?_ | refine qqm 3 0 hput (by simp) ?_) <;> (try refine ev_ ?_)) | with_reducible exact ti_)
   all_goals rfl
  ·have hnd : decide ((bput s t 4096 1).1 < 0) = false := decide_eq_false hn
   rw [appP, if_pos hlg, if_neg hn]
   repeat' (first | refine vs_ ?_ | ((first | refine vr_ ?_ | fail) <;> (try simp only [hnd, go_sem, ↓reduceIte])) | ((first | (refine cs_ ?_ ?_ <;> intro hc) | refine cj_ ?_ | fail | refine qa hLg fun _ => ?_ | refine qqm 3 0 hput (by simp) ?_) <;> (try refine ev_ ?_)) | with_reducible exact ti_)
   all_goals rfl
 ·rw [appP, if_neg hlg]
  have hlg : qd t = false := by simpa using hlg
  rw [hlg] at hLg
  repeat' (first | refine vs_ ?_ | ((first | refine vr_ ?_ | refine qa hLg fun _ => ?_ | (refine cs_ ?_ ?_ <;> intro hc) | refine cj_ ?_ | fail) <;> (try refine ev_ ?_)) | with_reducible exact ti_)
  all_goals rfl
set_option maxRecDepth 4000

def zR : AV := .agg [.int .i64 0, .str [], .int .i64 0, .nils]
def cpR (l : List Pr) (i : Nat) : List AV := qs (l.take i) ++ List.replicate (l.length - i) zR
theorem qbmk {l : List Pr} {i : Nat} (h : i ≤ l.length) : (cpR l i).length = l.length := by
 rw [cpR, List.length_append, qy, List.length_take, List.length_replicate]; omega
theorem qbpx (l : List Pr) : cpR l 0 = List.replicate l.length zR := by rw [cpR, List.take_zero, qcm, Nat.sub_zero]; rfl
theorem qbip (l : List Pr) : cpR l l.length = qs l := by rw [cpR, List.take_length, Nat.sub_self, List.replicate_zero, List.append_nil]
theorem qzj {l : List Pr} {i : Nat} (h : i < l.length) : (cpR l i).set i (encR (l.getD i R0)) = cpR l (i + 1) := by
 have h2 : (qs (l.take i)).length = i := by rw [qy, List.length_take]; omega
 obtain ⟨k, hk⟩ : ∃ k, l.length - i = k + 1 := ⟨l.length - i - 1, by omega⟩
 have hk2 : l.length - (i + 1) = k := by omega
 rw [cpR, cpR, hk, hk2, List.replicate_succ, qhs h, ← qhv, List.set_append_right _ _ (by omega), h2, Nat.sub_self, List.set_cons_zero, List.append_assoc]
 rfl
theorem qth (k : Nat) (l : List Pr) (i : Nat) : AV.bds k (cpR l i) = true := by
 rw [cpR, qht, qbz, qde]
 simp [zR, AV.bd, AV.bds]
theorem qqy (σ : Nat → Nat) (l : List Pr) (i : Nat) : AV.rens σ (cpR l i) = cpR l i := qu (m := 0) (fun i hi => by omega) _ (qth 0 l i)
attribute [go_sem] qth qqy
theorem qxh : VCalls Tryz.prog 12 [.blk [.nils]] [.ptr 0 0] (qcp fun H' o => H' = [subE []] ∧ o = .val (.sl 4 (qs []))) := by
 refine qf c0r 1 (by simp) (by simp) ?_
 repeat' (first | refine vs_ ?_ | ((first | refine vr_ ?_ | (refine cs_ ?_ ?_ <;> intro hc) | refine cj_ ?_ | simp (disch := omega) only [encs_getN, qb]) <;> (try refine ev_ ?_)) | with_reducible exact ti_)
 refine qq (S := Unit) (fun _ => True) (fun _ => (⟨[(3, .row 1 0), (18, .int .i64 (0 : Nat)), (19, .int .i64 (0 : Nat))], []⟩, [.blk [.nils], .mrow 4 []])) (fun _ => 0) ?_ fun x hx => ?_
 ·refine qi () [0, 1] trivial rfl (by simp) ?_ ?_ ?_ <;> (try refine ev_ ?_) <;> (try with_reducible exact ti_) <;> (try simp (disch := omega) only [qb, and_true, true_and])
  all_goals rfl
 ·refine qe3 1 rfl (fun v hv => by simp at hv) ?_
  repeat' (first | refine vs_ ?_ | ((first | refine vr_ ?_ | (refine cs_ ?_ ?_ <;> intro hc) | refine cj_ ?_ | simp (disch := omega) only [encs_getN, qb]) <;> (try refine ev_ ?_)) | with_reducible exact ti_)
  ·exact absurd hc (by omega)
  ·exact qf6 rfl (by simp) rfl ⟨rfl, rfl⟩
theorem q2k {s : List Pr} (hs : s ≠ []) (hl : s.length ≤ 100000) (ho : smlR s) : VCalls Tryz.prog 12 [.blk [.row 1 s.length], qb8 s] [.ptr 0 0] (qcp fun H' o => H' = [subE s] ∧ o = .val (.sl 4 (qs s))) := by
 refine qf c0r 2 (by simp) (by simp) ?_
 repeat' (first | refine vs_ ?_ | ((first | refine vr_ ?_ | (refine cs_ ?_ ?_ <;> intro hc) | refine cj_ ?_ | simp (disch := omega) only [encs_getN, qb]) <;> (try refine ev_ ?_)) | with_reducible exact ti_)
 have hm : s.length ≤ maxLen := by unfold maxLen; omega
 refine ⟨hm, ⟨by omega, by omega⟩, ?_⟩
 repeat' (first | refine vs_ ?_ | ((first | refine vr_ ?_ | (refine cs_ ?_ ?_ <;> intro hc) | refine cj_ ?_ | simp (disch := omega) only [encs_getN, qb]) <;> (try refine ev_ ?_)) | with_reducible exact ti_)
 refine qq (S := Nat) (fun i => i ≤ s.length) (fun i => (⟨[(3, .row 2 s.length), (17, .row 1 s.length), (18, .int .i64 s.length), (19, .int .i64 i)], []⟩, [.blk [.row 1 s.length], qb8 s, .mrow 4 (cpR s i)])) (fun i => s.length - i) ?_ fun i hi => ?_
 ·refine qi 0 [0, 1, 2] (Nat.zero_le _) rfl (by simp) ?_ ?_ ?_ <;> simp only [qbpx, zR] <;> (try refine ev_ ?_) <;> (try with_reducible exact ti_) <;> (try simp (disch := omega) only [qb, and_true, true_and])
  all_goals
   rw [show List.replicate s.length (AV.agg [AV.int .i64 0, AV.str [], AV.int .i64 0, AV.nils]) = cpR s 0 from (qbpx _).symm]
   exact ⟨qth _ _ _, by rw [qqy]⟩
 ·by_cases hlt : i < s.length
  ·have hp := ql hlt
   have hc := qbmk hi
   have hcp := qdo (s.getD i R0).ty (by have := (ho _ (qdv hlt)).1; omega)
   repeat' (first | refine vs_ ?_ | ((first | refine vr_ ?_ | fail) <;> (try simp (disch := first | omega | (simp only [List.length_set, List.length_append, List.length_cons, List.length_nil]; done) | (simp only [List.length_set, List.length_append, List.length_cons, List.length_nil]; omega)) only [hp, qb, go_sem, ↓reduceIte])) | ((first | simp (disch := omega) only [hp] | (refine cs_ ?_ ?_ <;> intro hc) | refine cj_ ?_ | simp (disch := omega) only [encs_getN, qb] | refine qa hcp fun _ => ?_ | refine qc hcp ?_) <;> (try refine ev_ ?_)) | with_reducible exact ti_)
   ·refine qi (i + 1) [0, 1, 2] ⟨by omega, by omega⟩ rfl (by simp) ?_ ?_ ?_ <;> simp only [← qzj hlt] <;> (try refine ev_ ?_) <;> (try with_reducible exact ti_) <;> (try simp (disch := omega) only [qb, and_true, true_and])
    all_goals (rw [qzj hlt]; exact ⟨qth _ _ _, by rw [qqy]⟩)
   ·exfalso; omega
  ·have hie : i = s.length := by omega
   subst hie
   rw [qbip]
   refine qe3 2 rfl (qlk _) ?_
   repeat' (first | refine vs_ ?_ | ((first | refine vr_ ?_ | (refine cs_ ?_ ?_ <;> intro hc) | refine cj_ ?_ | simp (disch := omega) only [encs_getN, qb]) <;> (try refine ev_ ?_)) | with_reducible exact ti_)
   all_goals try (exfalso; omega)
   all_goals exact qdk 1 hs rfl rfl (by simp) (by simp) (by simp [AV.bd, qbz]) ⟨rfl, rfl⟩
theorem qd2 {s : List Pr} (hl : s.length ≤ 100000) (ho : smlR s) : VM Tryz.prog 12 (subE s) (subE s) [.ptr 0 0] (.sl 4 (qs s)) := by
 by_cases hs : s = []
 ·subst hs
  exact qfz (by rw [qiy]; exact qxh) rfl
 ·exact qfz (by have := q2k hs hl ho; rwa [← qm8 hs] at this) rfl

section
variable {P : Program} {f : FuncId} {e : Ent} {L : List Ent} {args : List AV} {Q : List Ent → VO → Prop}
theorem qgw (h : VCalls P f [] args fun H' o => H' = [e] ∧ o = .val (.ptr 0 0)) (hb : e.bd 0 = true) (ha : AV.bds 0 args = true) (hq : Q (L ++ [e]) (.val (.ptr L.length 0))) : VApp P L (.fn f [] []) args Q := by
 refine q3u h ha fun H1 o ho => ?_
 obtain ⟨rfl, rfl⟩ := ho
 have e1 : qea L [] [e] = L ++ [e] := by
  show L ++ [e.ren _] = _
  rw [Ent.ren_bd0 hb]
 rw [e1]
 exact hq
end
theorem qgd {s : List Pr} (h : okS s) : smlR s := fun p hp => by
 have := (qp _).1 (h.2 p hp)
 omega
theorem qix : VCalls Tryz.prog 18 [] [.sl 4 []] fun H' o => H' = [subE []] ∧ o = .val (.ptr 0 0) := qo5 (l := []) (fun p hp => by simp at hp) (by simp)
set_option maxRecDepth 4000

theorem qj2 (t : List Pr) (b : List Pr) : ∀ (a acc : List Pr), (qbs t acc a).2 = 0 → qbs t acc (a ++ b) = qbs t (qbs t acc a).1 b
 | [], acc, _ => rfl
 | p :: r, acc, h => by
   rw [qbs] at h
   rw [List.cons_append, qbs, qbs]
   split at h
   ·rename_i h0
    rw [if_pos h0, if_pos h0, qj2 t b r _ h]
   ·rename_i h0
    exact absurd h h0
theorem qna {t : List Pr} : ∀ (a : List Pr) {acc : List Pr}, okS acc → okS (qbs t acc a).1
 | [], _, h => h
 | p :: r, acc, h => by
   rw [qbs]
   split
   ·exact qna r (qmp h _ _)
   ·exact qdf
theorem qkf (t : List Pr) : ∀ (a acc : List Pr), (qbs t acc a).1.length ≤ acc.length + a.length
 | [], acc => by simp [qbs]
 | p :: r, acc => by
   rw [qbs, List.length_cons]
   split
   ·have h1 := qkf t r (setR acc p.v (appR t p.ty).1).1
    have h2 := qmv acc p.v (appR t p.ty).1
    omega
   ·simp
theorem qbir {s t : List Pr} (hs : okS s) (ht : okS t) : behR s t = if (qbs t [] s).2 = 0 then (addR (qbs t [] s).1 t, 0) else ([], (qbs t [] s).2) := by
 rw [behR, ← qtd ht s [] hs.1 (fun p hp => by simp at hp)]
theorem q4s {s t : List Pr} {i : Nat} (h : i < s.length) (h0 : (qbs t [] (s.take i)).2 = 0) : qbs t [] s = qbs t (qbs t [] (s.take i)).1 (s.getD i R0 :: s.drop (i + 1)) := by
 have := qj2 t (s.drop i) (s.take i) [] h0
 rwa [List.take_append_drop, qx3 h] at this
theorem qr5 {s t : List Pr} {i : Nat} (h : i < s.length) (h0 : (qbs t [] (s.take i)).2 = 0) (ha : (appR t (s.getD i R0).ty).2 = 0) : qbs t [] (s.take (i + 1)) = ((setR (qbs t [] (s.take i)).1 (s.getD i R0).v (appR t (s.getD i R0).ty).1).1, 0) := by
 rw [qhs h, qj2 t _ _ _ h0, qbs, if_pos ha, qbs]
theorem ql9 {s t : List Pr} {i : Nat} (h : i < s.length) (h0 : (qbs t [] (s.take i)).2 = 0) (ha : (appR t (s.getD i R0).ty).2 ≠ 0) : qbs t [] s = ([], (appR t (s.getD i R0).ty).2) := by
 rw [q4s h h0, qbs, if_neg ha]
def newQ (L : List Ent) (p : List Pr × Int) (H' : List Ent) (o : VO) : Prop :=
 if p.2 = 0 then H' = L ++ [subE p.1] ∧ o = .val (.tup [.ptr L.length 0, .int .i64 0]) else H' = L ∧ o = .val (.tup [.nilp, .int .i64 p.2])
theorem q6o {s t : List Pr} (hs : okS s) (ht : okS t) (h1 : s.length ≤ 40000) (h2 : t.length ≤ 40000) : VCalls Tryz.prog 43 [subE s, subE t] [.ptr 0 0, .ptr 1 0] (newQ [subE s, subE t] (behR s t)) := by
 have hms := qgd hs
 have hmt := qgd ht
 have hA : ∀ ty, szY ty ≤ 20000 → dpY ty ≤ 300 → VM Tryz.prog 19 (subE t) (subE t) [.ptr 0 0, encY ty] (typA (appR t ty)) := fun ty q1 q2 => qoq (b := true) (R := bunR (subH t)) (fun v => qhk ht.1 (by omega) v) ht q1 q2
 have hstep : ∀ i, i < s.length → (qbs t [] (s.take i)).2 = 0 → risR (qbs t [] (s.take i)).1 ∧ (qbs t [] (s.take i)).1.length ≤ 40000 := fun i hi h0 => by
  have := qkf t (s.take i) []
  rw [List.length_take] at this
  exact ⟨(qna (s.take i) qdf).1, by simp at this; omega⟩
 have hap : ∀ i, i < s.length → (appR t (s.getD i R0).ty).2 = 0 → szY (appR t (s.getD i R0).ty).1 ≤ 20000 ∧ dpY (appR t (s.getD i R0).ty).1 ≤ 300 := fun i hi h0 => by
  obtain ⟨_, q2, q3⟩ := qbl ht h0
  rw [q3]
  have := (qp _).1 q2
  omega
 rw [qbir hs ht]
 by_cases he : (qbs t [] s).2 = 0
 ·rw [if_pos he]
  refine qf c0q 3 (by simp) (by simp) ?_
  repeat' (first | refine vs_ ?_ | ((first | refine vr_ ?_ | refine qgw qix rfl rfl ?_ | refine qbq 0 (qd2 (by omega) hms) ?_ | (refine cs_ ?_ ?_ <;> intro hc) | refine cj_ ?_ | simp (disch := omega) only [encs_getN, qb]) <;> (try refine ev_ ?_)) | with_reducible exact ti_)
  refine qq (S := Nat) (fun i => i ≤ s.length ∧ (qbs t [] (s.take i)).2 = 0) (fun i => (⟨[(1, .ptr 1 0), (6, .ptr 2 0), (15, .sl 4 (qs s)), (16, .int .i64 s.length), (17, .int .i64 i)], []⟩, [subE s, subE t, subE (qbs t [] (s.take i)).1])) (fun i => s.length - i) ?_ fun i hi => ?_
  ·refine qi 0 [0, 1, 2] ⟨Nat.zero_le _, rfl⟩ rfl (by simp) ?_ ?_ ?_ <;> simp only [List.take_zero, qbs] <;> (try refine ev_ ?_) <;> (try with_reducible exact ti_) <;> (try simp (disch := omega) only [qb, and_true, true_and])
  ·obtain ⟨hi, h0⟩ := hi
   by_cases hlt : i < s.length
   ·have hp := ql hlt
    have hm := hms _ (qdv hlt)
    obtain ⟨a1, a2⟩ := hstep i hlt h0
    by_cases ha : (appR t (s.getD i R0).ty).2 = 0
    ·obtain ⟨b1, b2⟩ := hap i hlt ha
     have hn := qr5 hlt h0 ha
     have hT : typA (appR t (s.getD i R0).ty) = .tup [encY (appR t (s.getD i R0).ty).1, .int .i64 0] := by rw [typA, ha]
     repeat' (first | refine vs_ ?_ | ((first | refine vr_ ?_ | fail) <;> (try simp (disch := first | omega | (simp only [List.length_set, List.length_append, List.length_cons, List.length_nil]; done) | (simp only [List.length_set, List.length_append, List.length_cons, List.length_nil]; omega)) only [hp, qb, go_sem, ↓reduceIte])) | ((first | simp (disch := omega) only [hp] | simp (disch := omega) only [hT] | (refine cs_ ?_ ?_ <;> intro hc) | refine cj_ ?_ | simp (disch := omega) only [encs_getN, qb] | refine qbq 1 (hA _ hm.1 hm.2) ?_ rfl rfl (by simp) rfl (qnf 0 _) | refine qbq 2 (qf7 a1 (by omega) _ b1 b2) ?_) <;> (try refine ev_ ?_)) | with_reducible exact ti_)
     ·refine qi (i + 1) [0, 1, 2] ⟨⟨by omega, by rw [hn]⟩, by omega⟩ rfl (by simp) ?_ ?_ ?_ <;> simp only [hn] <;> (try refine ev_ ?_) <;> (try with_reducible exact ti_) <;> (try simp (disch := omega) only [qb, and_true, true_and])
      all_goals rw [qw (by omega) (by omega), Int.natCast_add]; rfl
     ·exfalso; omega
    ·exact absurd (by rw [ql9 hlt h0 ha] at he; exact he) ha
   ·have hie : i = s.length := by omega
    subst hie
    rw [List.take_length]
    have hok : okS (qbs t [] s).1 := qna s qdf
    have hln := qkf t s []
    simp only [List.length_nil, Nat.zero_add] at hln
    repeat' (first | refine vs_ ?_ | ((first | refine vr_ ?_ | refine qbq 1 (qd2 (by omega) hmt) ?_ | (refine cs_ ?_ ?_ <;> intro hc) | refine cj_ ?_ | simp (disch := omega) only [encs_getN, qb]) <;> (try refine ev_ ?_)) | with_reducible exact ti_)
    ·exfalso; omega
    ·generalize (qbs t [] s).1 = a at hok hln ⊢
     refine qq (S := Nat) (fun i => i ≤ t.length) (fun i => (⟨[(6, .ptr 2 0), (38, .sl 4 (qs t)), (39, .int .i64 t.length), (40, .int .i64 i)], []⟩, [subE s, subE t, subE (addR a (t.take i))])) (fun i => t.length - i) ?_ fun i hi => ?_
     ·refine qi 0 [0, 1, 2] (Nat.zero_le _) rfl (by simp) ?_ ?_ ?_ <;> simp only [List.take_zero, addR] <;> (try refine ev_ ?_) <;> (try with_reducible exact ti_) <;> (try simp (disch := omega) only [qb, and_true, true_and])
     ·by_cases hlt : i < t.length
      ·have hp := ql hlt
       have hm := hmt _ (qdv hlt)
       have hq := qno (t.take i) hok
       have hql := qi7 (t.take i) a
       rw [List.length_take] at hql
       have hn := qoj hlt a
       repeat' (first | refine vs_ ?_ | ((first | refine vr_ ?_ | fail) <;> (try simp (disch := first | omega | (simp only [List.length_set, List.length_append, List.length_cons, List.length_nil]; done) | (simp only [List.length_set, List.length_append, List.length_cons, List.length_nil]; omega)) only [hp, qb, go_sem, ↓reduceIte])) | ((first | simp (disch := omega) only [hp] | (refine cs_ ?_ ?_ <;> intro hc) | refine cj_ ?_ | simp (disch := omega) only [encs_getN, qb] | refine qbq 2 (qf7 hq.1 (by omega) _ hm.1 hm.2) ?_) <;> (try refine ev_ ?_)) | with_reducible exact ti_)
       ·refine qi (i + 1) [0, 1, 2] ⟨by omega, by omega⟩ rfl (by simp) ?_ ?_ ?_ <;> simp only [hn] <;> (try refine ev_ ?_) <;> (try with_reducible exact ti_) <;> (try simp (disch := omega) only [qb, and_true, true_and])
        all_goals rw [qw (by omega) (by omega), Int.natCast_add]; rfl
      ·have hie : i = t.length := by omega
       subst hie
       rw [List.take_length]
       repeat' (first | refine vs_ ?_ | ((first | refine vr_ ?_ | (refine cs_ ?_ ?_ <;> intro hc) | refine cj_ ?_ | simp (disch := omega) only [encs_getN, qb]) <;> (try refine ev_ ?_)) | with_reducible exact ti_)
       all_goals try (exfalso; omega)
       all_goals
        rw [newQ, if_pos rfl]
        exact ⟨rfl, rfl⟩
 ·rw [if_neg he]
  refine qf c0q 2 (by simp) (by simp) ?_
  repeat' (first | refine vs_ ?_ | ((first | refine vr_ ?_ | refine qgw qix rfl rfl ?_ | refine qbq 0 (qd2 (by omega) hms) ?_ | (refine cs_ ?_ ?_ <;> intro hc) | refine cj_ ?_ | simp (disch := omega) only [encs_getN, qb]) <;> (try refine ev_ ?_)) | with_reducible exact ti_)
  refine qq (S := Nat) (fun i => i ≤ s.length ∧ (qbs t [] (s.take i)).2 = 0) (fun i => (⟨[(1, .ptr 1 0), (6, .ptr 2 0), (15, .sl 4 (qs s)), (16, .int .i64 s.length), (17, .int .i64 i)], []⟩, [subE s, subE t, subE (qbs t [] (s.take i)).1])) (fun i => s.length - i) ?_ fun i hi => ?_
  ·refine qi 0 [0, 1, 2] ⟨Nat.zero_le _, rfl⟩ rfl (by simp) ?_ ?_ ?_ <;> simp only [List.take_zero, qbs] <;> (try refine ev_ ?_) <;> (try with_reducible exact ti_) <;> (try simp (disch := omega) only [qb, and_true, true_and])
  ·obtain ⟨hi, h0⟩ := hi
   have hlt : i < s.length := by
    by_cases hlt : i < s.length
    ·exact hlt
    ·rw [List.take_of_length_le (by omega)] at h0
     exact absurd h0 he
   have hp := ql hlt
   have hm := hms _ (qdv hlt)
   obtain ⟨a1, a2⟩ := hstep i hlt h0
   by_cases ha : (appR t (s.getD i R0).ty).2 = 0
   ·obtain ⟨b1, b2⟩ := hap i hlt ha
    have hn := qr5 hlt h0 ha
    have hT : typA (appR t (s.getD i R0).ty) = .tup [encY (appR t (s.getD i R0).ty).1, .int .i64 0] := by rw [typA, ha]
    repeat' (first | refine vs_ ?_ | ((first | refine vr_ ?_ | fail) <;> (try simp (disch := first | omega | (simp only [List.length_set, List.length_append, List.length_cons, List.length_nil]; done) | (simp only [List.length_set, List.length_append, List.length_cons, List.length_nil]; omega)) only [hp, qb, go_sem, ↓reduceIte])) | ((first | simp (disch := omega) only [hp] | simp (disch := omega) only [hT] | (refine cs_ ?_ ?_ <;> intro hc) | refine cj_ ?_ | simp (disch := omega) only [encs_getN, qb] | refine qbq 1 (hA _ hm.1 hm.2) ?_ rfl rfl (by simp) rfl (qnf 0 _) | refine qbq 2 (qf7 a1 (by omega) _ b1 b2) ?_) <;> (try refine ev_ ?_)) | with_reducible exact ti_)
    ·refine qi (i + 1) [0, 1, 2] ⟨⟨by omega, by rw [hn]⟩, by omega⟩ rfl (by simp) ?_ ?_ ?_ <;> simp only [hn] <;> (try refine ev_ ?_) <;> (try with_reducible exact ti_) <;> (try simp (disch := omega) only [qb, and_true, true_and])
     all_goals rw [qw (by omega) (by omega), Int.natCast_add]; rfl
    ·exfalso; omega
   ·have hT : typA (appR t (s.getD i R0).ty) = .tup [encY (appR t (s.getD i R0).ty).1, .int .i64 (appR t (s.getD i R0).ty).2] := rfl
    have had : decide ((appR t (s.getD i R0).ty).2 = 0) = false := decide_eq_false ha
    rw [ql9 hlt h0 ha]
    repeat' (first | refine vs_ ?_ | ((first | refine vr_ ?_ | fail) <;> (try simp (disch := first | omega | (simp only [List.length_set, List.length_append, List.length_cons, List.length_nil]; done) | (simp only [List.length_set, List.length_append, List.length_cons, List.length_nil]; omega)) only [hp, qb, had, go_sem, ↓reduceIte])) | ((first | simp (disch := omega) only [hp] | simp (disch := omega) only [hT] | (refine cs_ ?_ ?_ <;> intro hc) | refine cj_ ?_ | simp (disch := omega) only [encs_getN, qb] | refine qbq 1 (hA _ hm.1 hm.2) ?_ rfl rfl (by simp) rfl (qnf 0 _)) <;> (try refine ev_ ?_)) | with_reducible exact ti_)
    all_goals try (exfalso; omega)
    all_goals
     rw [newQ, if_neg ha]
     exact ⟨rfl, rfl⟩
set_option maxRecDepth 4000


section
variable {L : List Ent} {Q : List Ent → VO → Prop} {s t : List Pr}
theorem qbkb {l : List Pr} (hs : smlR l) (hl : l.length ≤ 100000) (hq : Q (L ++ [subE (newR l)]) (.val (.ptr L.length 0))) : VApp Tryz.prog L (.fn 18 [] []) [.sl 4 (qs l)] Q :=
 qgw (qo5 hs hl) rfl (by simp only [AV.bds, AV.bd, qbz, Bool.and_true]) hq
theorem qsx (a b : Nat) (hs : okS s) (ht : okS t) (h1 : s.length ≤ 40000) (h2 : t.length ≤ 40000) (hab : a ≠ b) (hq : if (behR s t).2 = 0 then Q (L ++ [subE (behR s t).1]) (.val (.tup [.ptr L.length 0, .int .i64 0])) else Q L (.val (.tup [.nilp, .int .i64 (behR s t).2])))
 (h0 : ent L a = subE s := by rfl) (h0' : ent L b = subE t := by rfl) (ha : a < L.length := by simp) (hb : b < L.length := by simp) : VApp Tryz.prog L (.fn 43 [] []) [.ptr a 0, .ptr b 0] Q := by
 refine qb3 ?_
 rw [List.nil_append, List.append_nil]
 refine qba [a, b] (q6o hs ht h1 h2) (by simp [hab]) ⟨⟨ha, rfl, by rw [h0]; rfl⟩, ⟨hb, rfl, by rw [h0']; rfl⟩, trivial⟩ rfl (by rfl) fun H1 o ho => ?_
 have e0 : (L.set a (subE s)).set b (subE t) = L := by
  rw [qcd h0 ha, qcd h0' hb]
 rw [newQ] at ho
 split at ho
 ·rename_i he
  rw [if_pos he] at hq
  obtain ⟨rfl, rfl⟩ := ho
  have e1 : qea L [a, b] ([subE s, subE t] ++ [subE (behR s t).1]) = L ++ [subE (behR s t).1] := by
   show ((L.set a (subE s)).set b (subE t)) ++ [subE (behR s t).1] = _
   rw [e0]
  rw [e1]
  show Q _ (.val (.tup [.ptr (L.length + (2 - 2)) 0, .int .i64 0]))
  exact hq
 ·rename_i he
  rw [if_neg he] at hq
  obtain ⟨rfl, rfl⟩ := ho
  have e1 : qea L [a, b] [subE s, subE t] = L := by
   show ((L.set a (subE s)).set b (subE t)) ++ [] = _
   rw [e0, List.append_nil]
  rw [e1]
  exact hq
theorem qx {f : FuncId} {e e' : Ent} {rest : List AV} {r : AV} (i : Nat) (h : VM Tryz.prog f e e' (.ptr 0 0 :: rest) r) (hrest : AV.bds 0 rest = true) (hr : r.bd 0 = true) (hq : Q (L.set i e') (.val r)) (hb : e.bd 0 = true := by rfl) (hb' : e'.bd 0 = true := by rfl) (hi : i < L.length := by simp) (he : ent L i = e := by rfl) :
 VApp Tryz.prog L (.fn f [] []) (.ptr i 0 :: rest) Q := by
 refine qbq i h hq hb hb' hi he hr ?_ ?_
 ·rw [List.append_nil, AV.rens, qu (m := 0) (fun j hj => by omega) rest hrest]; rfl
 ·rw [AV.bds, Bool.and_eq_true]
  exact ⟨rfl, qcv (Nat.zero_le _) _ hrest⟩
theorem q63 {l : List Pr} (hs : smlR l) (hl : l.length ≤ 100000) (e : newR l = s) (hq : Q (L ++ [subE s]) (.val (.ptr L.length 0))) : VApp Tryz.prog L (.fn 18 [] []) [.sl 4 (qs l)] Q := by
 subst e; exact qbkb hs hl hq
theorem qv1 (a b : Nat) {r : List Pr} (hs : okS s) (ht : okS t) (h1 : s.length ≤ 40000) (h2 : t.length ≤ 40000) (hab : a ≠ b) (he : behR s t = (r, 0)) (hq : Q (L ++ [subE r]) (.val (.tup [.ptr L.length 0, .int .i64 0])))
 (h0 : ent L a = subE s := by rfl) (h0' : ent L b = subE t := by rfl) (ha : a < L.length := by simp) (hb : b < L.length := by simp) : VApp Tryz.prog L (.fn 43 [] []) [.ptr a 0, .ptr b 0] Q := by
 refine qsx a b hs ht h1 h2 hab ?_ h0 h0' ha hb
 rw [he, if_pos rfl]
 exact hq
theorem qbhj (a b : Nat) {r : List Pr} {e : Int} (hs : okS s) (ht : okS t) (h1 : s.length ≤ 40000) (h2 : t.length ≤ 40000) (hab : a ≠ b) (he : behR s t = (r, e)) (hne : e ≠ 0) (hq : Q L (.val (.tup [.nilp, .int .i64 e])))
 (h0 : ent L a = subE s := by rfl) (h0' : ent L b = subE t := by rfl) (ha : a < L.length := by simp) (hb : b < L.length := by simp) : VApp Tryz.prog L (.fn 43 [] []) [.ptr a 0, .ptr b 0] Q := by
 refine qsx a b hs ht h1 h2 hab ?_ h0 h0' ha hb
 rw [he, if_neg hne]
 exact hq
theorem qsy (hs : okS s) (hl : s.length ≤ 100000) {ty : Ty} (q1 : szY ty ≤ 20000) (q2 : dpY ty ≤ 300) : VM Tryz.prog 19 (subE s) (subE s) [.ptr 0 0, encY ty] (typA (appR s ty)) :=
 qoq (b := true) (R := bunR (subH s)) (fun v => qhk hs.1 hl v) hs q1 q2
end
def wT : Ty := ⟨[84], 0, []⟩
def wU : Ty := ⟨[85], 0, []⟩
def wV : Ty := ⟨[86], 0, []⟩
def wB : Ty := ⟨[], 1, []⟩
def wR : Ty := ⟨[45, 62], 0, [wT, wB]⟩
def S1 : List Pr := [⟨0, wT⟩]
def S2 : List Pr := [⟨0, wT⟩, ⟨1, Y0⟩]
def S3 : List Pr := [⟨0, wV⟩]
def S4 : List Pr := [⟨0, wT⟩, ⟨1, wV⟩]
theorem w1 : newR [⟨0, wT⟩, ⟨0, wU⟩] = S1 := by rfl
theorem w3 : newR [⟨0, wV⟩] = S3 := by rfl
theorem S1_ok : okS S1 := w1 ▸ qrp _
theorem qbv0 : okS S3 := w3 ▸ qrp _
theorem w2 : setR S1 1 Y0 = (S2, 0) := by rfl
theorem qbag : okS S2 := by have := qmp S1_ok 1 Y0; rwa [w2] at this
theorem w4 : behR S2 S3 = (S4, 0) := by rfl
theorem S4_ok : okS S4 := by have := qrj qbag qbv0; rwa [w4] at this
theorem k1 : VM Tryz.prog 36 (subE S1) (subE S1) [.ptr 0 0, .int .i64 0, encY wT] (.int .i64 6) := qf7 S1_ok.1 (by decide) 0 (t := wT) (by decide) (by decide)
theorem k2 : VM Tryz.prog 36 (subE S1) (subE S2) [.ptr 0 0, .int .i64 1, encY Y0] (.int .i64 0) := qf7 S1_ok.1 (by decide) 1 (t := Y0) (by decide) (by decide)
theorem k4 : VM Tryz.prog 25 (subE S4) (subE S4) [.ptr 0 0, .int .i64 1] (.tup [encY wV, .bool true]) := qhk S4_ok.1 (by decide) 1
theorem k5 : VM Tryz.prog 12 (subE S2) (subE S2) [.ptr 0 0] (.sl 4 (qs S2)) := qd2 (by decide) (qgd qbag)
theorem w6 : qbqf [1] S2 = [⟨1, Y0⟩] := by rfl
theorem k6 : VM Tryz.prog 12 (subE [⟨1, Y0⟩]) (subE [⟨1, Y0⟩]) [.ptr 0 0] (.sl 4 (qs [⟨1, Y0⟩])) := qd2 (by decide) (qgd (by have := q5p qbag [1]; rwa [w6] at this))
theorem k7 : qj Tryz.prog 64 [encY wR] (.str [84, 32, 45, 62, 32, 98]) := qlu (t := wR) (by decide) (by decide) (by decide)
end Go.Proofs.YtlahgbhhejkgbaaGreat
