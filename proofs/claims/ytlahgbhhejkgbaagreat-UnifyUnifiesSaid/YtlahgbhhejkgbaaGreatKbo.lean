/- Texts of this proof, joined. -/
import Derived.Test.YtlahgbhhejkgbaaGreatKbl
import Derived.Test.YtlahgbhhejkgbaaGreatKbn

/- made one: few, awake -/
set_option maxRecDepth 4000
namespace Go.Proofs.YtlahgbhhejkgbaaGreat
open Go Go.RowKit Go.V
set_option linter.unusedVariables false
set_option linter.unusedSimpArgs false

def fewU : List Ty → Nat → Bool
 | [], _ => true
 | x :: r, n => qg4 [x] && (decide (n + szY x ≤ 600) && fewU r (n + szY x))
theorem qsf : ∀ (l : List Ty) (n : Nat), fewU l n = true → n ≤ 600 → (∀ x ∈ l, szY x ≤ 20000 ∧ dpY x ≤ 300) ∧ n + szYs l ≤ 600
 | [], n, _, hn => ⟨fun x hx => by simp at hx, by rw [szYs]; exact hn⟩
 | x :: r, n, h, hn => by
   rw [fewU, Bool.and_eq_true, Bool.and_eq_true, decide_eq_true_eq] at h
   obtain ⟨h1, h2, h3⟩ := h
   obtain ⟨h4, h5⟩ := qsf r _ h3 h2
   refine ⟨fun y hy => ?_, by rw [szYs]; omega⟩
   rcases List.mem_cons.1 hy with rfl | hy
   ·exact qps h1
   ·exact h4 y hy
theorem qbvm (l : List Ty) : qj Tryz.prog 7 [.sl 3 (qt l)] (.bool (fewU l 0)) := by
 refine qg c0b (by simp) (by simp only [go_sem]) rfl fun hw => ?_
 have hl : l.length ≤ maxLen := by have := hw.1.1; rwa [qbu] at this
 have h10 : decide ((1 : Int) = 0) = false := rfl
 repeat' (first | refine vs_ ?_ | ((first | refine vr_ ?_ | (refine cs_ ?_ ?_ <;> intro hc) | refine cj_ ?_ | simp (disch := omega) only [encs_getN, qb]) <;> (try refine ev_ ?_)) | with_reducible exact ti_)
 refine qq (S := Nat × Nat) (fun x => x.1 ≤ l.length ∧ x.2 ≤ 600 ∧ fewU (l.drop x.1) x.2 = fewU l 0) (fun x => (⟨[(0, .sl 3 (qt l)), (3, .int .i64 x.2), (4, .int .i64 x.1)], []⟩, [])) (fun x => l.length - x.1) ?_ ?_
 ·refine qi (0, 0) [] ⟨Nat.zero_le _, by decide, rfl⟩ rfl (by simp) ?_ ?_ ?_ <;> (try refine ev_ ?_) <;> (try with_reducible exact ti_) <;> (try simp (disch := omega) only [qb, and_true, true_and])
 ·rintro ⟨i, n⟩ ⟨i1, i2, i3⟩
  dsimp only at i1 i2 i3 ⊢
  by_cases hlt : i < l.length
  ·have hg := qo hlt
   rw [qlb hlt, fewU] at i3
   cases hf : qg4 [l.getD i Y0] with
   | false =>
     rw [hf, Bool.false_and] at i3
     have hF : qj Tryz.prog 22 [.sl 3 [encY (l.getD i Y0)]] (.int .i64 0) := by
      have := q04 hf
      rwa [← ql4] at this
     rw [← i3]
     repeat' (first | refine vs_ ?_ | ((first | refine vr_ ?_ | fail) <;> (try simp (disch := first | omega | (simp only [List.length_set, List.length_append, List.length_cons, List.length_nil]; done) | (simp only [List.length_set, List.length_append, List.length_cons, List.length_nil]; omega)) only [hg, qb, go_sem, ↓reduceIte])) | ((first | simp (disch := omega) only [hg] | (refine cs_ ?_ ?_ <;> intro hc) | refine cj_ ?_ | simp (disch := omega) only [encs_getN, qb] | refine qa hF fun _ => ?_) <;> (try refine ev_ ?_)) | with_reducible exact ti_)
     all_goals try (exfalso; omega)
   | true =>
     rw [hf, Bool.true_and] at i3
     obtain ⟨m1, m2⟩ := qps hf
     have hF : qj Tryz.prog 22 [.sl 3 [encY (l.getD i Y0)]] (.int .i64 1) := by
      have := qwa hf
      rwa [← ql4] at this
     have hS := qhr (l.getD i Y0)
     rw [qfk _ (by omega)] at hS
     have hw : IntKind.i64.wrap ((n : Int) + szY (l.getD i Y0)) = ((n + szY (l.getD i Y0) : Nat) : Int) := by rw [qw (by omega) (by omega)]; omega
     by_cases h6 : n + szY (l.getD i Y0) ≤ 600
     ·rw [decide_eq_true h6, Bool.true_and] at i3
      repeat' (first | refine vs_ ?_ | ((first | refine vr_ ?_ | fail) <;> (try simp (disch := first | omega | (simp only [List.length_set, List.length_append, List.length_cons, List.length_nil]; done) | (simp only [List.length_set, List.length_append, List.length_cons, List.length_nil]; omega)) only [h10, hg, hw, qb, go_sem, ↓reduceIte])) | ((first | simp (disch := omega) only [hg] | simp (disch := omega) only [hw] | (refine cs_ ?_ ?_ <;> intro hc) | refine cj_ ?_ | simp (disch := omega) only [encs_getN, qb] | refine qa hF fun _ => ?_ | refine qa hS fun _ => ?_) <;> (try refine ev_ ?_)) | with_reducible exact ti_)
      all_goals try (exfalso; omega)
      refine qi (i + 1, n + szY (l.getD i Y0)) [] ⟨⟨by dsimp only; omega, h6, i3⟩, by dsimp only; omega⟩ rfl (by simp) ?_ ?_ ?_ <;> (try refine ev_ ?_) <;> (try with_reducible exact ti_) <;> (try simp (disch := omega) only [qb, and_true, true_and])
     ·rw [decide_eq_false h6, Bool.false_and] at i3
      rw [← i3]
      repeat' (first | refine vs_ ?_ | ((first | refine vr_ ?_ | fail) <;> (try simp (disch := first | omega | (simp only [List.length_set, List.length_append, List.length_cons, List.length_nil]; done) | (simp only [List.length_set, List.length_append, List.length_cons, List.length_nil]; omega)) only [h10, hg, hw, qb, go_sem, ↓reduceIte])) | ((first | simp (disch := omega) only [hg] | simp (disch := omega) only [hw] | (refine cs_ ?_ ?_ <;> intro hc) | refine cj_ ?_ | simp (disch := omega) only [encs_getN, qb] | refine qa hF fun _ => ?_ | refine qa hS fun _ => ?_) <;> (try refine ev_ ?_)) | with_reducible exact ti_)
      all_goals try (exfalso; omega)
  ·rw [List.drop_of_length_le (by omega), fewU] at i3
   rw [← i3]
   repeat' (first | refine vs_ ?_ | ((first | refine vr_ ?_ | (refine cs_ ?_ ?_ <;> intro hc) | refine cj_ ?_ | simp (disch := omega) only [encs_getN, qb]) <;> (try refine ev_ ?_)) | with_reducible exact ti_)
   all_goals try (exfalso; omega)
theorem qcj {s : List UInt8} {t : Ty} {e : Int} (h : rdOK s) (hr : q56 s = (t, e)) : qj Tryz.prog 24 [.str s] (encY t) := by
 have hR := qt4 h
 rw [hr] at hR
 refine qg c0c (by simp) (by simp only [go_sem]) (qz 0 _) fun hw => ?_
 repeat' (first | refine vs_ ?_ | ((first | refine vr_ ?_ | refine qa hR fun _ => ?_ | (refine cs_ ?_ ?_ <;> intro hc) | refine cj_ ?_ | fail) <;> (try refine ev_ ?_)) | with_reducible exact ti_)
def uC : Ty := ⟨[], 2, []⟩
def uTA : Ty := ⟨[84], 0, [Y0]⟩
def fU (a b : Ty) : Ty := ⟨[45, 62], 0, [a, b]⟩
theorem u_aT : qj Tryz.prog 24 [.str [97, 32, 45, 62, 32, 84]] (encY (fU Y0 wT)) := qcj (qew (t := fU Y0 wT) (r := ⟨[], 0, false⟩) rfl (by decide) (by decide) (by decide) (by decide) (by decide)) (e := 0) rfl
theorem u_Ub : qj Tryz.prog 24 [.str [85, 32, 45, 62, 32, 98]] (encY (fU wU wB)) := qcj (qew (t := fU wU wB) (r := ⟨[], 0, false⟩) rfl (by decide) (by decide) (by decide) (by decide) (by decide)) (e := 0) rfl
theorem u_T : qj Tryz.prog 24 [.str [84]] (encY wT) := qcj (qew (t := wT) (r := ⟨[], 0, false⟩) rfl (by decide) (by decide) (by decide) (by decide) (by decide)) (e := 0) rfl
theorem u_U : qj Tryz.prog 24 [.str [85]] (encY wU) := qcj (qew (t := wU) (r := ⟨[], 0, false⟩) rfl (by decide) (by decide) (by decide) (by decide) (by decide)) (e := 0) rfl
theorem u_a : qj Tryz.prog 24 [.str [97]] (encY Y0) := qcj (qew (t := Y0) (r := ⟨[], 0, false⟩) rfl (by decide) (by decide) (by decide) (by decide) (by decide)) (e := 0) rfl
theorem u_Ta : qj Tryz.prog 24 [.str [84, 32, 97]] (encY uTA) := qcj (qew (t := uTA) (r := ⟨[], 0, false⟩) rfl (by decide) (by decide) (by decide) (by decide) (by decide)) (e := 0) rfl
theorem u_ac : qj Tryz.prog 24 [.str [97, 32, 45, 62, 32, 99]] (encY (fU Y0 uC)) := qcj (qew (t := fU Y0 uC) (r := ⟨[], 0, false⟩) rfl (by decide) (by decide) (by decide) (by decide) (by decide)) (e := 0) rfl
theorem u_cU : qj Tryz.prog 24 [.str [99, 32, 45, 62, 32, 85]] (encY (fU uC wU)) := qcj (qew (t := fU uC wU) (r := ⟨[], 0, false⟩) rfl (by decide) (by decide) (by decide) (by decide) (by decide)) (e := 0) rfl
def U1 : List Pr := [⟨0, wU⟩, ⟨1, wT⟩]
def U2 : List Pr := [⟨2, wU⟩]
def U3 : List Pr := [⟨0, wU⟩, ⟨1, wT⟩, ⟨2, wU⟩]
theorem uq1 : UniQ (fU Y0 wT) (fU wU wB) (U1, 0) := by rw [UniQ, if_pos ⟨rfl, rfl⟩]; exact ⟨10, rfl⟩
theorem uq2 : UniQ (fU Y0 wT) wT ([], 14) := by rw [UniQ, if_pos ⟨rfl, rfl⟩]; exact ⟨10, rfl⟩
theorem uq3 : UniQ Y0 uTA ([], 15) := by rw [UniQ, if_pos ⟨rfl, rfl⟩]; exact ⟨10, rfl⟩
theorem uq4 : AllQ [Y0, Y0] [wT, wU] ([], 14) := by rw [AllQ, if_pos ⟨rfl, rfl⟩, if_pos (show [Y0, Y0].length = [wT, wU].length from rfl)]; exact ⟨10, rfl⟩
theorem uq5 : UniQ (fU wU uC) (fU uC wU) (U2, 0) := by rw [UniQ, if_pos ⟨rfl, rfl⟩]; exact ⟨10, rfl⟩
theorem uq6 : AprQ Y0 uTA false := by rw [AprQ, if_pos ⟨rfl, rfl⟩]; exact ⟨([⟨0, ⟨[84], 0, [⟨[], 1, []⟩]⟩⟩], 0), by rw [UniQ, if_pos ⟨rfl, rfl⟩]; exact ⟨10, rfl⟩, rfl⟩
theorem uq7 : AprQ uTA wU true := by rw [AprQ, if_pos ⟨rfl, rfl⟩]; exact ⟨([], 14), by rw [UniQ, if_pos ⟨rfl, rfl⟩]; exact ⟨10, rfl⟩, rfl⟩
theorem av1 : VCalls Tryz.prog 9 [] [encY (fU Y0 wT), encY (fU wU wB)] (newQ [] (U1, 0)) := qct (by decide) (by decide) (by decide) (by decide) uq1
theorem av2 : VCalls Tryz.prog 9 [] [encY (fU Y0 wT), encY wT] (newQ [] ([], 14)) := qct (by decide) (by decide) (by decide) (by decide) uq2
theorem av3 : VCalls Tryz.prog 9 [] [encY Y0, encY uTA] (newQ [] ([], 15)) := qct (by decide) (by decide) (by decide) (by decide) uq3
theorem av4 : VCalls Tryz.prog 13 [] [.sl 3 [encY Y0, encY Y0], .sl 3 [encY wT, encY wU]] (newQ [] ([], 14)) := by
 rw [qe2, qe2]
 exact qw0 (fun x hx => by simp at hx; subst hx; exact ⟨by decide, by decide⟩) (fun x hx => by simp at hx; rcases hx with rfl | rfl <;> exact ⟨by decide, by decide⟩) (by decide) uq4
theorem U1_ok : okS U1 := by have h := (qs3 uq1).1; exact h
theorem U3_ok : okS U3 := by
 have h : behR U1 U2 = (U3, 0) := rfl
 have := qrj U1_ok (qs3 uq5).1
 rw [h] at this
 exact this
theorem av5 : VCalls Tryz.prog 26 [subE U1] [.ptr 0 0, encY (fU Y0 uC), encY (fU uC wU)] fun H' o => H' = [subE U1, subE U3] ∧ o = .val (.tup [.ptr 1 0, .int .i64 0]) := qur (A := fU wU uC) (B := fU uC wU) U1_ok (by decide) rfl rfl rfl rfl uq5 rfl
theorem ag0 : VM Tryz.prog 25 (subE U1) (subE U1) [.ptr 0 0, .int .i64 0] (.tup [encY wU, .bool true]) := qhk U1_ok.1 (by decide) 0
theorem ag1 : VM Tryz.prog 25 (subE U1) (subE U1) [.ptr 0 0, .int .i64 1] (.tup [encY wT, .bool true]) := qhk U1_ok.1 (by decide) 1
theorem ag2 : VM Tryz.prog 25 (subE U3) (subE U3) [.ptr 0 0, .int .i64 2] (.tup [encY wU, .bool true]) := qhk U3_ok.1 (by decide) 2
theorem av6 : qj Tryz.prog 15 [encY Y0, encY uTA] (.bool false) := qjc (by decide) (by decide) (by decide) (by decide) uq6
theorem av7 : qj Tryz.prog 15 [encY uTA, encY wU] (.bool true) := qjc (by decide) (by decide) (by decide) (by decide) uq7
theorem bY2 (a b : Ty) : AV.bds 0 [encY a, encY b] = true := by simp only [AV.bds, qz, Bool.and_true]
theorem bS2 (a b c d : Ty) : AV.bds 0 [.sl 3 [encY a, encY b], .sl 3 [encY c, encY d]] = true := by simp only [AV.bds, AV.bd, qz, Bool.and_true]
theorem q16 {L : List Ent} {Q : List Ent → VO → Prop} (hq : Q (L ++ [subE U3]) (.val (.tup [.ptr L.length 0, .int .i64 0]))) (he : ent L 0 = subE U1 := by rfl) (hl : 0 < L.length := by simp) : VApp Tryz.prog L (.fn 26 [] []) [.ptr 0 0, encY (fU Y0 uC), encY (fU uC wU)] Q := by
 refine qb3 ?_
 rw [List.nil_append, List.append_nil]
 refine qba [0] av5 (by simp) ⟨⟨hl, rfl, by rw [he]; rfl⟩, trivial⟩ (by simp only [AV.bds, AV.bd, qz, Bool.and_true]; rfl) (by simp only [AV.rens, AV.ren, qfp]; rfl) fun H1 o ho => ?_
 obtain ⟨rfl, rfl⟩ := ho
 have e1 : qea L [0] [subE U1, subE U3] = L ++ [subE U3] := by
  show (L.set 0 (subE U1)) ++ [subE U3] = _
  rw [qcd he hl]
 rw [e1]
 show Q _ (.val (.tup [.ptr (L.length + (1 - 1)) 0, .int .i64 0]))
 exact hq
set_option maxHeartbeats 2000000 in
theorem qqx : qj Tryz.prog 8 [] (.bool true) := by
 refine qg c0d (by simp) rfl rfl fun hw => ?_
 repeat' (first | refine vs_ ?_ | ((first | refine vr_ ?_ | refine qa u_aT fun _ => ?_ | refine qa u_Ub fun _ => ?_ | refine qkt av1 (bY2 _ _) rfl ?_ | refine qx 0 ag0 rfl rfl ?_ | refine qx 0 ag1 rfl rfl ?_ | (refine cs_ ?_ ?_ <;> intro hc) | refine cj_ ?_ | fail) <;> (try refine ev_ ?_)) | with_reducible exact ti_)
 repeat' (first | refine vs_ ?_ | ((first | refine vr_ ?_ | refine qa u_T fun _ => ?_ | refine qh9 av2 (bY2 _ _) rfl (by decide) ?_ | refine qa u_a fun _ => ?_ | refine qa u_Ta fun _ => ?_ | refine qh9 av3 (bY2 _ _) rfl (by decide) ?_ | (refine cs_ ?_ ?_ <;> intro hc) | refine cj_ ?_ | fail) <;> (try refine ev_ ?_)) | with_reducible exact ti_)
 repeat' (first | refine vs_ ?_ | ((first | refine vr_ ?_ | refine qa u_U fun _ => ?_ | refine qa u_T fun _ => ?_ | refine qh9 av4 (bS2 _ _ _ _) rfl (by decide) ?_ | (refine cs_ ?_ ?_ <;> intro hc) | refine cj_ ?_ | fail) <;> (try refine ev_ ?_)) | with_reducible exact ti_)
 repeat' (first | refine vs_ ?_ | ((first | refine vr_ ?_ | refine qa u_ac fun _ => ?_ | refine qa u_cU fun _ => ?_ | refine q16 ?_ | (refine cs_ ?_ ?_ <;> intro hc) | refine cj_ ?_ | fail) <;> (try refine ev_ ?_)) | with_reducible exact ti_)
 have cU : wU.con = [85] := rfl
 have cT : wT.con = [84] := rfl
 repeat' (first | refine vs_ ?_ | ((first | refine vr_ ?_ | fail) <;> (try simp only [cU, cT, go_sem, ↓reduceIte])) | ((first | (refine cs_ ?_ ?_ <;> intro hc) | refine cj_ ?_ | fail | refine qx 3 ag2 rfl rfl ?_) <;> (try refine ev_ ?_)) | with_reducible exact ti_)
 repeat' (first | refine vs_ ?_ | ((first | refine vr_ ?_ | refine qa u_a fun _ => ?_ | refine qa u_Ta fun _ => ?_ | refine qa u_U fun _ => ?_ | refine qa av6 fun _ => ?_ | refine qa av7 fun _ => ?_ | (refine cs_ ?_ ?_ <;> intro hc) | refine cj_ ?_ | fail) <;> (try refine ev_ ?_)) | with_reducible exact ti_)

theorem q2g {a b : Ty} (h : fewU [a, b] 0 = true) : szY a ≤ 20000 ∧ dpY a ≤ 300 ∧ szY b ≤ 20000 ∧ dpY b ≤ 300 := by
 have h1 := (qsf [a, b] 0 h (by decide)).1
 obtain ⟨p1, p2⟩ := h1 a (by simp)
 obtain ⟨p3, p4⟩ := h1 b (by simp)
 exact ⟨p1, p2, p3, p4⟩
theorem qwz (a b : Ty) : qj Tryz.prog 7 [.sl 3 [encY a, encY b]] (.bool (fewU [a, b] 0)) := by
 have := qbvm [a, b]
 rwa [← qe2] at this
end Go.Proofs.YtlahgbhhejkgbaaGreat
