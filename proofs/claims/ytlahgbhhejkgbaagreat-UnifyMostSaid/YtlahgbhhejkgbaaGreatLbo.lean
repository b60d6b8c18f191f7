/- Texts of this proof, joined. -/
import Derived.Test.YtlahgbhhejkgbaaGreatLbl
import Derived.Test.YtlahgbhhejkgbaaGreatLbn

/- made one: few, awake -/
set_option maxRecDepth 4000
namespace Go.Proofs.YtlahgbhhejkgbaaGreat
open Go Go.RowKit Go.V
set_option linter.unusedVariables false
set_option linter.unusedSimpArgs false

def fewU : List Ty → Nat → Bool
 | [], _ => true
 | x :: r, n => qeu [x] && (decide (n + szY x ≤ 600) && fewU r (n + szY x))
theorem qsw : ∀ (l : List Ty) (n : Nat), fewU l n = true → n ≤ 600 → (∀ x ∈ l, szY x ≤ 20000 ∧ dpY x ≤ 300) ∧ n + szYs l ≤ 600
 | [], n, _, hn => ⟨fun x hx => by simp at hx, by rw [szYs]; exact hn⟩
 | x :: r, n, h, hn => by
   rw [fewU, Bool.and_eq_true, Bool.and_eq_true, decide_eq_true_eq] at h
   obtain ⟨h1, h2, h3⟩ := h
   obtain ⟨h4, h5⟩ := qsw r _ h3 h2
   refine ⟨fun y hy => ?_, by rw [szYs]; omega⟩
   rcases List.mem_cons.1 hy with rfl | hy
   ·exact qnw h1
   ·exact h4 y hy
theorem qbti (l : List Ty) : qn Tryz.prog 7 [.sl 3 (qq l)] (.bool (fewU l 0)) := by
 refine qf c0d (by simp) (by simp only [go_sem]) rfl fun hw => ?_
 have hl : l.length ≤ maxLen := by have := hw.1.1; rwa [qbg] at this
 have h10 : decide ((1 : Int) = 0) = false := rfl
 repeat' (first | refine vs_ ?_ | ((first | refine vr_ ?_ | (refine cs_ ?_ ?_ <;> intro hc) | refine cj_ ?_ | simp (disch := omega) only [encs_getN, qb]) <;> (try refine ev_ ?_)) | with_reducible exact ti_)
 refine qp (S := Nat × Nat) (fun x => x.1 ≤ l.length ∧ x.2 ≤ 600 ∧ fewU (l.drop x.1) x.2 = fewU l 0) (fun x => (⟨[(0, .sl 3 (qq l)), (3, .int .i64 x.2), (4, .int .i64 x.1)], []⟩, [])) (fun x => l.length - x.1) ?_ ?_
 ·refine qm (0, 0) [] ⟨Nat.zero_le _, by decide, rfl⟩ rfl (by simp) ?_ ?_ ?_ <;> (try refine ev_ ?_) <;> (try with_reducible exact ti_) <;> (try simp (disch := omega) only [qb, and_true, true_and])
 ·rintro ⟨i, n⟩ ⟨i1, i2, i3⟩
  dsimp only at i1 i2 i3 ⊢
  by_cases hlt : i < l.length
  ·have hg := q8 hlt
   rw [qhn hlt, fewU] at i3
   cases hf : qeu [l.getD i Y0] with
   | false =>
     rw [hf, Bool.false_and] at i3
     have hF : qn Tryz.prog 22 [.sl 3 [encY (l.getD i Y0)]] (.int .i64 0) := by
      have := q2a hf
      rwa [← qhi] at this
     rw [← i3]
     repeat' (first | refine vs_ ?_ | ((first | refine vr_ ?_ | fail) <;> (try simp (disch := first | omega | (simp only [List.length_set, List.length_append, List.length_cons, List.length_nil]; done) | (simp only [List.length_set, List.length_append, List.length_cons, List.length_nil]; omega)) only [hg, qb, go_sem, ↓reduceIte])) | ((first | simp (disch := omega) only [hg] | (refine cs_ ?_ ?_ <;> intro hc) | refine cj_ ?_ | simp (disch := omega) only [encs_getN, qb] | refine qa hF fun _ => ?_) <;> (try refine ev_ ?_)) | with_reducible exact ti_)
     all_goals try (exfalso; omega)
   | true =>
     rw [hf, Bool.true_and] at i3
     obtain ⟨m1, m2⟩ := qnw hf
     have hF : qn Tryz.prog 22 [.sl 3 [encY (l.getD i Y0)]] (.int .i64 1) := by
      have := qxx hf
      rwa [← qhi] at this
     have hS := qln (l.getD i Y0)
     rw [qhq _ (by omega)] at hS
     have hw : IntKind.i64.wrap ((n : Int) + szY (l.getD i Y0)) = ((n + szY (l.getD i Y0) : Nat) : Int) := by rw [qt (by omega) (by omega)]; omega
     by_cases h6 : n + szY (l.getD i Y0) ≤ 600
     ·rw [decide_eq_true h6, Bool.true_and] at i3
      repeat' (first | refine vs_ ?_ | ((first | refine vr_ ?_ | fail) <;> (try simp (disch := first | omega | (simp only [List.length_set, List.length_append, List.length_cons, List.length_nil]; done) | (simp only [List.length_set, List.length_append, List.length_cons, List.length_nil]; omega)) only [h10, hg, hw, qb, go_sem, ↓reduceIte])) | ((first | simp (disch := omega) only [hg] | simp (disch := omega) only [hw] | (refine cs_ ?_ ?_ <;> intro hc) | refine cj_ ?_ | simp (disch := omega) only [encs_getN, qb] | refine qa hF fun _ => ?_ | refine qa hS fun _ => ?_) <;> (try refine ev_ ?_)) | with_reducible exact ti_)
      all_goals try (exfalso; omega)
      refine qm (i + 1, n + szY (l.getD i Y0)) [] ⟨⟨by dsimp only; omega, h6, i3⟩, by dsimp only; omega⟩ rfl (by simp) ?_ ?_ ?_ <;> (try refine ev_ ?_) <;> (try with_reducible exact ti_) <;> (try simp (disch := omega) only [qb, and_true, true_and])
     ·rw [decide_eq_false h6, Bool.false_and] at i3
      rw [← i3]
      repeat' (first | refine vs_ ?_ | ((first | refine vr_ ?_ | fail) <;> (try simp (disch := first | omega | (simp only [List.length_set, List.length_append, List.length_cons, List.length_nil]; done) | (simp only [List.length_set, List.length_append, List.length_cons, List.length_nil]; omega)) only [h10, hg, hw, qb, go_sem, ↓reduceIte])) | ((first | simp (disch := omega) only [hg] | simp (disch := omega) only [hw] | (refine cs_ ?_ ?_ <;> intro hc) | refine cj_ ?_ | simp (disch := omega) only [encs_getN, qb] | refine qa hF fun _ => ?_ | refine qa hS fun _ => ?_) <;> (try refine ev_ ?_)) | with_reducible exact ti_)
      all_goals try (exfalso; omega)
  ·rw [List.drop_of_length_le (by omega), fewU] at i3
   rw [← i3]
   repeat' (first | refine vs_ ?_ | ((first | refine vr_ ?_ | (refine cs_ ?_ ?_ <;> intro hc) | refine cj_ ?_ | simp (disch := omega) only [encs_getN, qb]) <;> (try refine ev_ ?_)) | with_reducible exact ti_)
   all_goals try (exfalso; omega)
theorem qcb {s : List UInt8} {t : Ty} {e : Int} (h : rdOK s) (hr : q33 s = (t, e)) : qn Tryz.prog 24 [.str s] (encY t) := by
 have hR := qt9 h
 rw [hr] at hR
 refine qf c0e (by simp) (by simp only [go_sem]) (qz 0 _) fun hw => ?_
 repeat' (first | refine vs_ ?_ | ((first | refine vr_ ?_ | refine qa hR fun _ => ?_ | (refine cs_ ?_ ?_ <;> intro hc) | refine cj_ ?_ | fail) <;> (try refine ev_ ?_)) | with_reducible exact ti_)
def uC : Ty := ⟨[], 2, []⟩
def uTA : Ty := ⟨[84], 0, [Y0]⟩
def fU (a b : Ty) : Ty := ⟨[45, 62], 0, [a, b]⟩
theorem u_aT : qn Tryz.prog 24 [.str [97, 32, 45, 62, 32, 84]] (encY (fU Y0 wT)) := qcb (qez (t := fU Y0 wT) (r := ⟨[], 0, false⟩) rfl (by decide) (by decide) (by decide) (by decide) (by decide)) (e := 0) rfl
theorem u_Ub : qn Tryz.prog 24 [.str [85, 32, 45, 62, 32, 98]] (encY (fU wU wB)) := qcb (qez (t := fU wU wB) (r := ⟨[], 0, false⟩) rfl (by decide) (by decide) (by decide) (by decide) (by decide)) (e := 0) rfl
theorem u_T : qn Tryz.prog 24 [.str [84]] (encY wT) := qcb (qez (t := wT) (r := ⟨[], 0, false⟩) rfl (by decide) (by decide) (by decide) (by decide) (by decide)) (e := 0) rfl
theorem u_U : qn Tryz.prog 24 [.str [85]] (encY wU) := qcb (qez (t := wU) (r := ⟨[], 0, false⟩) rfl (by decide) (by decide) (by decide) (by decide) (by decide)) (e := 0) rfl
theorem u_a : qn Tryz.prog 24 [.str [97]] (encY Y0) := qcb (qez (t := Y0) (r := ⟨[], 0, false⟩) rfl (by decide) (by decide) (by decide) (by decide) (by decide)) (e := 0) rfl
theorem u_Ta : qn Tryz.prog 24 [.str [84, 32, 97]] (encY uTA) := qcb (qez (t := uTA) (r := ⟨[], 0, false⟩) rfl (by decide) (by decide) (by decide) (by decide) (by decide)) (e := 0) rfl
theorem u_ac : qn Tryz.prog 24 [.str [97, 32, 45, 62, 32, 99]] (encY (fU Y0 uC)) := qcb (qez (t := fU Y0 uC) (r := ⟨[], 0, false⟩) rfl (by decide) (by decide) (by decide) (by decide) (by decide)) (e := 0) rfl
theorem u_cU : qn Tryz.prog 24 [.str [99, 32, 45, 62, 32, 85]] (encY (fU uC wU)) := qcb (qez (t := fU uC wU) (r := ⟨[], 0, false⟩) rfl (by decide) (by decide) (by decide) (by decide) (by decide)) (e := 0) rfl
def U1 : List Pr := [⟨0, wU⟩, ⟨1, wT⟩]
def U2 : List Pr := [⟨2, wU⟩]
def U3 : List Pr := [⟨0, wU⟩, ⟨1, wT⟩, ⟨2, wU⟩]
theorem uq1 : UniQ (fU Y0 wT) (fU wU wB) (U1, 0) := by rw [UniQ, if_pos ⟨rfl, rfl⟩]; exact ⟨10, rfl⟩
theorem uq2 : UniQ (fU Y0 wT) wT ([], 14) := by rw [UniQ, if_pos ⟨rfl, rfl⟩]; exact ⟨10, rfl⟩
theorem uq3 : UniQ Y0 uTA ([], 15) := by rw [UniQ, if_pos ⟨rfl, rfl⟩]; exact ⟨10, rfl⟩
theorem uq4 : AllQ [Y0, Y0] [wT, wU] ([], 14) := by rw [AllQ, if_pos ⟨rfl, rfl⟩, if_pos (show [Y0, Y0].length = [wT, wU].length from rfl)]; exact ⟨10, rfl⟩
theorem uq5 : UniQ (fU wU uC) (fU uC wU) (U2, 0) := by rw [UniQ, if_pos ⟨rfl, rfl⟩]; exact ⟨10, rfl⟩
theorem uq6 : AprQ Y0 uTA false := by rw [AprQ, if_pos ⟨rfl, rfl⟩]; exact ⟨([⟨0, ⟨[84], 0, [⟨[], 1, []⟩]⟩⟩], 0), by rw [UniQ, if_pos ⟨rfl, rfl⟩]; exact ⟨10, rfl⟩, rfl⟩
theorem uq7 : AprQ uTA wU true := by rw [AprQ, if_pos ⟨rfl, rfl⟩]; exact ⟨([], 14), by rw [UniQ, if_pos ⟨rfl, rfl⟩]; exact ⟨10, rfl⟩, rfl⟩
theorem av1 : VCalls Tryz.prog 9 [] [encY (fU Y0 wT), encY (fU wU wB)] (newQ [] (U1, 0)) := qci (by decide) (by decide) (by decide) (by decide) uq1
theorem av2 : VCalls Tryz.prog 9 [] [encY (fU Y0 wT), encY wT] (newQ [] ([], 14)) := qci (by decide) (by decide) (by decide) (by decide) uq2
theorem av3 : VCalls Tryz.prog 9 [] [encY Y0, encY uTA] (newQ [] ([], 15)) := qci (by decide) (by decide) (by decide) (by decide) uq3
theorem av4 : VCalls Tryz.prog 13 [] [.sl 3 [encY Y0, encY Y0], .sl 3 [encY wT, encY wU]] (newQ [] ([], 14)) := by
 rw [qey, qey]
 exact qwo (fun x hx => by simp at hx; subst hx; exact ⟨by decide, by decide⟩) (fun x hx => by simp at hx; rcases hx with rfl | rfl <;> exact ⟨by decide, by decide⟩) (by decide) uq4
theorem U1_ok : okS U1 := by have h := (qrq uq1).1; exact h
theorem U3_ok : okS U3 := by
 have h : behR U1 U2 = (U3, 0) := rfl
 have := qrb U1_ok (qrq uq5).1
 rw [h] at this
 exact this
theorem av5 : VCalls Tryz.prog 26 [subE U1] [.ptr 0 0, encY (fU Y0 uC), encY (fU uC wU)] fun H' o => H' = [subE U1, subE U3] ∧ o = .val (.tup [.ptr 1 0, .int .i64 0]) := qt8 (A := fU wU uC) (B := fU uC wU) U1_ok (by decide) rfl rfl rfl rfl uq5 rfl
theorem ag0 : VM Tryz.prog 25 (subE U1) (subE U1) [.ptr 0 0, .int .i64 0] (.tup [encY wU, .bool true]) := qho U1_ok.1 (by decide) 0
theorem ag1 : VM Tryz.prog 25 (subE U1) (subE U1) [.ptr 0 0, .int .i64 1] (.tup [encY wT, .bool true]) := qho U1_ok.1 (by decide) 1
theorem ag2 : VM Tryz.prog 25 (subE U3) (subE U3) [.ptr 0 0, .int .i64 2] (.tup [encY wU, .bool true]) := qho U3_ok.1 (by decide) 2
theorem av6 : qn Tryz.prog 15 [encY Y0, encY uTA] (.bool false) := qkv (by decide) (by decide) (by decide) (by decide) uq6
theorem av7 : qn Tryz.prog 15 [encY uTA, encY wU] (.bool true) := qkv (by decide) (by decide) (by decide) (by decide) uq7
theorem bY2 (a b : Ty) : AV.bds 0 [encY a, encY b] = true := by simp only [AV.bds, qz, Bool.and_true]
theorem bS2 (a b c d : Ty) : AV.bds 0 [.sl 3 [encY a, encY b], .sl 3 [encY c, encY d]] = true := by simp only [AV.bds, AV.bd, qz, Bool.and_true]
theorem q5f {L : List Ent} {Q : List Ent → VO → Prop} (hq : Q (L ++ [subE U3]) (.val (.tup [.ptr L.length 0, .int .i64 0]))) (he : ent L 0 = subE U1 := by rfl) (hl : 0 < L.length := by simp) : VApp Tryz.prog L (.fn 26 [] []) [.ptr 0 0, encY (fU Y0 uC), encY (fU uC wU)] Q := by
 refine qbv ?_
 rw [List.nil_append, List.append_nil]
 refine qbb [0] av5 (by simp) ⟨⟨hl, rfl, by rw [he]; rfl⟩, trivial⟩ (by simp only [AV.bds, AV.bd, qz, Bool.and_true]; rfl) (by simp only [AV.rens, AV.ren, qfi]; rfl) fun H1 o ho => ?_
 obtain ⟨rfl, rfl⟩ := ho
 have e1 : qdw L [0] [subE U1, subE U3] = L ++ [subE U3] := by
  show (L.set 0 (subE U1)) ++ [subE U3] = _
  rw [qb4 he hl]
 rw [e1]
 show Q _ (.val (.tup [.ptr (L.length + (1 - 1)) 0, .int .i64 0]))
 exact hq
set_option maxHeartbeats 2000000 in
theorem qd4 : qn Tryz.prog 8 [] (.bool true) := by
 refine qf c0f (by simp) rfl rfl fun hw => ?_
 repeat' (first | refine vs_ ?_ | ((first | refine vr_ ?_ | refine qa u_aT fun _ => ?_ | refine qa u_Ub fun _ => ?_ | refine qjw av1 (bY2 _ _) rfl ?_ | refine qu 0 ag0 rfl rfl ?_ | refine qu 0 ag1 rfl rfl ?_ | (refine cs_ ?_ ?_ <;> intro hc) | refine cj_ ?_ | fail) <;> (try refine ev_ ?_)) | with_reducible exact ti_)
 repeat' (first | refine vs_ ?_ | ((first | refine vr_ ?_ | refine qa u_T fun _ => ?_ | refine qhb av2 (bY2 _ _) rfl (by decide) ?_ | refine qa u_a fun _ => ?_ | refine qa u_Ta fun _ => ?_ | refine qhb av3 (bY2 _ _) rfl (by decide) ?_ | (refine cs_ ?_ ?_ <;> intro hc) | refine cj_ ?_ | fail) <;> (try refine ev_ ?_)) | with_reducible exact ti_)
 repeat' (first | refine vs_ ?_ | ((first | refine vr_ ?_ | refine qa u_U fun _ => ?_ | refine qa u_T fun _ => ?_ | refine qhb av4 (bS2 _ _ _ _) rfl (by decide) ?_ | (refine cs_ ?_ ?_ <;> intro hc) | refine cj_ ?_ | fail) <;> (try refine ev_ ?_)) | with_reducible exact ti_)
 repeat' (first | refine vs_ ?_ | ((first | refine vr_ ?_ | refine qa u_ac fun _ => ?_ | refine qa u_cU fun _ => ?_ | refine q5f ?_ | (refine cs_ ?_ ?_ <;> intro hc) | refine cj_ ?_ | fail) <;> (try refine ev_ ?_)) | with_reducible exact ti_)
 have cU : wU.con = [85] := rfl
 have cT : wT.con = [84] := rfl
 repeat' (first | refine vs_ ?_ | ((first | refine vr_ ?_ | fail) <;> (try simp only [cU, cT, go_sem, ↓reduceIte])) | ((first | (refine cs_ ?_ ?_ <;> intro hc) | refine cj_ ?_ | fail | refine qu 3 ag2 rfl rfl ?_) <;> (try refine ev_ ?_)) | with_reducible exact ti_)
 repeat' (first | refine vs_ ?_ | ((first | refine vr_ ?_ | refine qa u_a fun _ => ?_ | refine qa u_Ta fun _ => ?_ | refine qa u_U fun _ => ?_ | refine qa av6 fun _ => ?_ | refine qa av7 fun _ => ?_ | (refine cs_ ?_ ?_ <;> intro hc) | refine cj_ ?_ | fail) <;> (try refine ev_ ?_)) | with_reducible exact ti_)

theorem q4o {a b : Ty} (h : fewU [a, b] 0 = true) : szY a ≤ 20000 ∧ dpY a ≤ 300 ∧ szY b ≤ 20000 ∧ dpY b ≤ 300 := by
 have h1 := (qsw [a, b] 0 h (by decide)).1
 obtain ⟨p1, p2⟩ := h1 a (by simp)
 obtain ⟨p3, p4⟩ := h1 b (by simp)
 exact ⟨p1, p2, p3, p4⟩
theorem qz4 (a b : Ty) : qn Tryz.prog 7 [.sl 3 [encY a, encY b]] (.bool (fewU [a, b] 0)) := by
 have := qbti [a, b]
 rwa [← qey] at this
set_option maxRecDepth 4000

theorem qbqn {p t : Ty} (hp : qc p = true) (ht : qc t = true) {f : Int → Ty} (h : subF f p = t) : (onP p t []).2 = true :=
 (qbk5 (p := p) (t := t) (of_decide_eq_true ((q8k hp ht).2 ⟨f, h⟩))).2.2.1
theorem q1f {a b : Ty} {r : List Pr} {e : Int} (ha : qc a = true) (hb : qc b = true) (h : UniQ a b (r, e)) {f : Int → Ty} (hf : subF f a = subF f b) : (e = 0 ∧ abs f r) ∨ e = 2 := by
 rw [UniQ, if_pos ⟨ha, hb⟩] at h
 obtain ⟨n, hq⟩ := h
 exact qpn f n [] _ (r, e) (qm4 ha hb) hq (qbbv f) (fun x hx => by simp at hx; subst hx; exact hf)
theorem qv8 {r : List Pr} {f : Int → Ty} (ho : okS r) {a u x : Ty} (hu : appR r a = (u, 0)) (hx : qc x = true) (h : abs f r) (hf : subF f a = x) : (onP u x []).2 = true := by
 obtain ⟨q1, q2, q3⟩ := qbc ho (t := a) (by rw [hu])
 rw [hu] at q3
 have q3 : u = putY r a := q3
 subst q3
 exact qbqn (f := f) q2 hx (by rw [qf0 h (qv q1), hf])
def qbs9 (l m : List Ty) (s : List Pr) (x : Nat × List Pr × Bool) : Prop := x.1 ≤ l.length ∧ okS x.2.1 ∧ x.2.1.length + szYs (l.drop x.1) ≤ 100000 ∧ (x.2.2 = true → onPs (l.drop x.1) (m.drop x.1) x.2.1 = onPs l m s) ∧ (x.2.2 = false → onPs l m s = (x.2.1, false))
def onF (p t : Ty) (x : Nat × List Pr × Bool) : AF × List Ent := (⟨[(0, .sl 4 (qw x.2.1)), (4, .ptr 0 0), (5, .ptr 1 0), (12, .bool x.2.2), (13, .int .i64 x.1)], []⟩, [.blk (yc p), .blk (yc t)])
theorem bOn (q : List Pr × Bool) : AV.bd 0 (.tup [.sl 4 (qw q.1), .bool q.2]) = true := by simp only [AV.bds, AV.bd, qbx, Bool.and_true]
set_option maxHeartbeats 2000000 in
theorem q48 : ∀ p t s, okS s → s.length + szY p ≤ 100000 → szY t ≤ 20000 → dpY t ≤ 300 → qn Tryz.prog 39 [.sl 4 (qw s), encY p, encY t] (.tup [.sl 4 (qw (onP p t s).1), .bool (onP p t s).2]) := by
 refine Ty.ind fun p ih t s h1 h2 h3 h4 => ?_
 refine qf c0a (by simp) (by simp only [AV.bds, AV.bd, qbx, qz, Bool.and_true]) (bOn _) fun hw => ?_
 have hkp := qct hw.2.1
 have hkt := qct hw.2.2.1
 have hG := qpj s p.var
 have hS : qn Tryz.prog 53 [.sl 4 (qw s), .int .i64 p.var, encY t] (.tup [.sl 4 (qw (setR s p.var t).1), .int .i64 (setR s p.var t).2]) := qyg (s := s) (v := p.var) (by omega) h3 h4
 rw [qbry]
 by_cases hc : p.con = []
 ·simp only [if_pos hc]
  cases hlk : qi p.var s with
  | some u =>
    rw [getA, hlk] at hG
    repeat' (first | refine vs_ ?_ | ((first | refine vr_ ?_ | fail) <;> (try simp only [hc, go_sem, ↓reduceIte])) | ((first | (refine cs_ ?_ ?_ <;> intro hc) | refine cj_ ?_ | simp (disch := omega) only [encs_getN, qb] | refine qa hG fun _ => ?_ | refine qa (qhw _ _) fun _ => ?_ | refine qg hG ?_ | refine qg (qhw _ _) ?_) <;> (try refine ev_ ?_)) | with_reducible exact ti_)
  | none =>
    rw [getA, hlk] at hG
    repeat' (first | refine vs_ ?_ | ((first | refine vr_ ?_ | fail) <;> (try simp only [hc, go_sem, ↓reduceIte])) | ((first | (refine cs_ ?_ ?_ <;> intro hc) | refine cj_ ?_ | simp (disch := omega) only [encs_getN, qb] | refine qa hG fun _ => ?_ | refine qa hS fun _ => ?_ | refine qg hG ?_ | refine qg hS ?_) <;> (try refine ev_ ?_)) | with_reducible exact ti_)
 ·simp only [if_neg hc]
  by_cases hct : p.con = t.con
  case neg =>
   simp only [if_neg hct]
   have hctd : decide (p.con = t.con) = false := decide_eq_false hct
   repeat' (first | refine vs_ ?_ | ((first | refine vr_ ?_ | fail) <;> (try simp only [hc, hct, hctd, go_sem, ↓reduceIte])) | ((first | (refine cs_ ?_ ?_ <;> intro hc) | refine cj_ ?_ | simp (disch := omega) only [encs_getN, qb]) <;> (try refine ev_ ?_)) | with_reducible exact ti_)
   refine qp (S := Unit) (fun _ => True) (fun _ => onF p t (0, s, false)) (fun _ => 0) ?_ fun x hx => ?_
   ·refine qm () [0, 1] trivial rfl (by simp) ?_ ?_ ?_ <;> simp only [onF] <;> (try refine ev_ ?_) <;> (try with_reducible exact ti_) <;> (try simp (disch := omega) only [qb, and_true, true_and])
    all_goals rfl
   ·unfold onF
    repeat' (first | refine vs_ ?_ | ((first | refine vr_ ?_ | (refine cs_ ?_ ?_ <;> intro hc) | refine cj_ ?_ | simp (disch := omega) only [encs_getN, qb]) <;> (try refine ev_ ?_)) | with_reducible exact ti_)
  have hcT : ¬ t.con = [] := hct ▸ hc
  by_cases hlm : p.args.length = t.args.length
  case neg =>
   have hlmi : ¬ (p.args.length : Int) = t.args.length := by omega
   simp only [if_pos hct, if_neg hlm]
   repeat' (first | refine vs_ ?_ | ((first | refine vr_ ?_ | fail) <;> (try simp only [hc, hct, hcT, hlmi, go_sem, ↓reduceIte])) | ((first | (refine cs_ ?_ ?_ <;> intro hc) | refine cj_ ?_ | simp (disch := omega) only [encs_getN, qb]) <;> (try refine ev_ ?_)) | with_reducible exact ti_)
   refine qp (S := Unit) (fun _ => True) (fun _ => onF p t (0, s, false)) (fun _ => 0) ?_ fun x hx => ?_
   ·refine qm () [0, 1] trivial rfl (by simp) ?_ ?_ ?_ <;> simp only [onF] <;> (try refine ev_ ?_) <;> (try with_reducible exact ti_) <;> (try simp (disch := omega) only [qb, and_true, true_and])
    all_goals (rw [hct])
   ·unfold onF
    repeat' (first | refine vs_ ?_ | ((first | refine vr_ ?_ | (refine cs_ ?_ ?_ <;> intro hc) | refine cj_ ?_ | simp (disch := omega) only [encs_getN, qb]) <;> (try refine ev_ ?_)) | with_reducible exact ti_)
  have hlmi : (p.args.length : Int) = t.args.length := by omega
  simp only [if_pos hct, if_pos hlm]
  repeat' (first | refine vs_ ?_ | ((first | refine vr_ ?_ | fail) <;> (try simp only [hc, hct, hcT, hlmi, go_sem, ↓reduceIte])) | ((first | (refine cs_ ?_ ?_ <;> intro hc) | refine cj_ ?_ | simp (disch := omega) only [encs_getN, qb]) <;> (try refine ev_ ?_)) | with_reducible exact ti_)
  refine qp (S := Nat × List Pr × Bool) (qbs9 p.args t.args s) (onF p t) (fun x => p.args.length - x.1) ?_ ?_
  ·refine qm (0, s, true) [0, 1] ⟨Nat.zero_le _, h1, by rw [qge] at h2; show s.length + szYs (p.args.drop 0) ≤ _; rw [List.drop_zero]; omega, fun _ => rfl, fun h => nomatch h⟩ rfl (by simp) ?_ ?_ ?_ <;> simp only [onF] <;> (try refine ev_ ?_) <;> (try with_reducible exact ti_) <;> (try simp (disch := omega) only [qb, and_true, true_and])
   all_goals (rw [hct])
  ·rintro ⟨i, s1, b⟩ ⟨hi, ho1, hs1, ha, hb⟩
   dsimp only at hi ho1 hs1 ha hb
   unfold onF
   dsimp only
   cases b with
   | false =>
     rw [hb rfl]
     repeat' (first | refine vs_ ?_ | ((first | refine vr_ ?_ | (refine cs_ ?_ ?_ <;> intro hc) | refine cj_ ?_ | simp (disch := omega) only [encs_getN, qb]) <;> (try refine ev_ ?_)) | with_reducible exact ti_)
   | true =>
     have ha := ha rfl
     by_cases hlt : i < p.args.length
     ·have hmt : i < t.args.length := by omega
      have q1 := qhu (qbs hmt)
      have q2 := qki (qbs hmt)
      rw [qge] at h3
      rw [qsf] at h4
      rw [qzj hlt hmt] at ha
      rw [qhn hlt, szYs] at hs1
      have hon := ih _ (qbs hlt) (t.args.getD i Y0) s1 ho1 (by omega) (by omega) (by omega)
      have hok := q5q (p.args.getD i Y0) (t.args.getD i Y0) s1 ho1
      have hg := q8 hlt
      have hg' := q8 hmt
      obtain ⟨q, hqe⟩ : ∃ q, onP (p.args.getD i Y0) (t.args.getD i Y0) s1 = q := ⟨_, rfl⟩
      rw [hqe] at ha hon hok
      repeat' (first | refine vs_ ?_ | ((first | refine vr_ ?_ | fail) <;> (try simp (disch := first | omega | (simp only [List.length_set, List.length_append, List.length_cons, List.length_nil]; done) | (simp only [List.length_set, List.length_append, List.length_cons, List.length_nil]; omega)) only [hg, hg', qb, go_sem, ↓reduceIte])) | ((first | simp (disch := omega) only [hg] | simp (disch := omega) only [hg'] | (refine cs_ ?_ ?_ <;> intro hc) | refine cj_ ?_ | simp (disch := omega) only [encs_getN, qb] | refine qa hon fun _ => ?_ | refine qg hon ?_) <;> (try refine ev_ ?_)) | with_reducible exact ti_)
      all_goals try (exfalso; omega)
      refine qm (i + 1, q.1, q.2) [0, 1] ⟨⟨by dsimp only; omega, hok.1, by dsimp only; omega, fun h => ?_, fun h => ?_⟩, by dsimp only; omega⟩ rfl (by simp) ?_ ?_ ?_ <;> (try simp only [onF]) <;> (try refine ev_ ?_) <;> (try with_reducible exact ti_) <;> (try simp (disch := omega) only [qb, and_true, true_and])
      ·dsimp only at h; rw [if_pos h] at ha; exact ha
      ·dsimp only at h; rw [h, if_neg (by simp)] at ha; exact ha.symm
     ·rw [qz6 (by omega)] at ha
      rw [← ha]
      repeat' (first | refine vs_ ?_ | ((first | refine vr_ ?_ | (refine cs_ ?_ ?_ <;> intro hc) | refine cj_ ?_ | simp (disch := omega) only [encs_getN, qb]) <;> (try refine ev_ ?_)) | with_reducible exact ti_)
      all_goals try (exfalso; omega)
theorem qqc {p t : Ty} (h1 : szY p ≤ 20000) (h3 : szY t ≤ 20000) (h4 : dpY t ≤ 300) : qn Tryz.prog 21 [encY p, encY t] (.bool (onP p t []).2) := by
 refine qf c0b (by simp) (bY2 _ _) rfl fun hw => ?_
 have hO := q48 p t [] qcu (by simp; omega) h3 h4
 have hO : qn Tryz.prog 39 [.sl 4 [], encY p, encY t] _ := hO
 repeat' (first | refine vs_ ?_ | ((first | refine vr_ ?_ | refine qa hO fun _ => ?_ | (refine cs_ ?_ ?_ <;> intro hc) | refine cj_ ?_ | fail) <;> (try refine ev_ ?_)) | with_reducible exact ti_)
set_option maxHeartbeats 4000000 in
theorem qm5 (l : List Pr) (a b : Ty) : qn Tryz.prog 5 [.sl 4 (qw l), encY a, encY b] (.bool true) := by
 refine qf c0c (by simp) (by simp only [AV.bds, AV.bd, qbx, qz, Bool.and_true]) rfl fun hw => ?_
 have hla := (qi3 hw.1).1
 have hF := qz4 a b
 have h10 : decide ((1 : Int) = 0) = false := rfl
 by_cases hfl : fewR l = true
 case neg =>
  have hfl : fewR l = false := by simpa using hfl
  repeat' (first | refine vs_ ?_ | ((first | refine vr_ ?_ | refine qa (q2w hfl) fun _ => ?_ | refine qa qd4 fun _ => ?_ | (refine cs_ ?_ ?_ <;> intro hc) | refine cj_ ?_ | fail) <;> (try refine ev_ ?_)) | with_reducible exact ti_)
 obtain ⟨l1, l2⟩ := q3n hla hfl
 by_cases h5 : l.length ≤ 5
 case neg =>
  repeat' (first | refine vs_ ?_ | ((first | refine vr_ ?_ | fail) <;> (try simp only [h10, go_sem, ↓reduceIte])) | ((first | (refine cs_ ?_ ?_ <;> intro hc) | refine cj_ ?_ | fail | refine qa (qkg hfl) fun _ => ?_ | refine qa qd4 fun _ => ?_) <;> (try refine ev_ ?_)) | with_reducible exact ti_)
  all_goals try (exfalso; omega)
 cases hf : fewU [a, b] 0 with
 | false =>
   rw [hf] at hF
   repeat' (first | refine vs_ ?_ | ((first | refine vr_ ?_ | fail) <;> (try simp only [h10, go_sem, ↓reduceIte])) | ((first | (refine cs_ ?_ ?_ <;> intro hc) | refine cj_ ?_ | fail | refine qa (qkg hfl) fun _ => ?_ | refine qa hF fun _ => ?_ | refine qa qd4 fun _ => ?_) <;> (try refine ev_ ?_)) | with_reducible exact ti_)
   all_goals try (exfalso; omega)
 | true =>
 rw [hf] at hF
 obtain ⟨h1, h2, h3, h4⟩ := q4o hf
 have hO := qmm l
 have hOl := qr0 l
 obtain ⟨o, hoe⟩ : ∃ o, newR l = o := ⟨_, rfl⟩
 rw [hoe] at hO hOl
 have fX := qgh hO (by omega) h1 h2
 have fY := qgh hO (by omega) h3 h4
 have hTa : ∀ q : Ty × Int, typA q = .tup [encY q.1, .int .i64 q.2] := fun _ => rfl
 rw [hTa] at fX fY
 obtain ⟨q1, hq1⟩ : ∃ q, appR o a = q := ⟨_, rfl⟩
 obtain ⟨q2, hq2⟩ : ∃ q, appR o b = q := ⟨_, rfl⟩
 rw [hq1] at fX
 rw [hq2] at fY
 obtain ⟨x, e⟩ := q1
 obtain ⟨y, f⟩ := q2
 dsimp only at fX fY
 repeat' (first | refine vs_ ?_ | ((first | refine vr_ ?_ | fail) <;> (try simp only [h10, go_sem, ↓reduceIte])) | ((first | (refine cs_ ?_ ?_ <;> intro hc) | refine cj_ ?_ | fail | refine qa (qkg hfl) fun _ => ?_ | refine qa hF fun _ => ?_ | refine qx0 l2 (by omega) hoe ?_) <;> (try refine ev_ ?_)) | with_reducible exact ti_)
 all_goals try (exfalso; omega)
 refine qu 2 fX (bY _) (bYi _ _) ?_
 (refine ev_ ?_; (try with_reducible exact ti_))
 repeat' (first | refine vs_ ?_ | ((first | refine vr_ ?_ | (refine cs_ ?_ ?_ <;> intro hc) | refine cj_ ?_ | fail) <;> (try refine ev_ ?_)) | with_reducible exact ti_)
 refine qu 2 fY (bY _) (bYi _ _) ?_
 (refine ev_ ?_; (try with_reducible exact ti_))
 by_cases he : e = 0
 case neg =>
  have hd : decide (e = 0) = false := decide_eq_false he
  repeat' (first | refine vs_ ?_ | ((first | refine vr_ ?_ | fail) <;> (try simp only [hd, decide_false, go_sem, ↓reduceIte])) | ((first | (refine cs_ ?_ ?_ <;> intro hc) | refine cj_ ?_ | fail | refine qa qd4 fun _ => ?_) <;> (try refine ev_ ?_)) | with_reducible exact ti_)
  all_goals try (exfalso; revert hc; simp; done)
 by_cases hf0 : f = 0
 case neg =>
  subst he
  have hd : decide (f = 0) = false := decide_eq_false hf0
  repeat' (first | refine vs_ ?_ | ((first | refine vr_ ?_ | fail) <;> (try simp only [hd, decide_false, go_sem, ↓reduceIte])) | ((first | (refine cs_ ?_ ?_ <;> intro hc) | refine cj_ ?_ | fail | refine qa qd4 fun _ => ?_) <;> (try refine ev_ ?_)) | with_reducible exact ti_)
  all_goals try (exfalso; revert hc; simp; done)
 subst he
 subst hf0
 have hsm := qhw x y
 by_cases hxy : x = y
 case neg =>
  have hs : qhd x y = false := by
   cases hh : qhd x y with
   | false => rfl
   | true => exact absurd ((qim x y).1 hh) hxy
  rw [hs] at hsm
  repeat' (first | refine vs_ ?_ | ((first | refine vr_ ?_ | refine qa hsm fun _ => ?_ | refine qa qd4 fun _ => ?_ | (refine cs_ ?_ ?_ <;> intro hc) | refine cj_ ?_ | fail) <;> (try refine ev_ ?_)) | with_reducible exact ti_)
 subst hxy
 rw [(qim x x).2 rfl] at hsm
 obtain ⟨a1, a2, a3⟩ := qbc hO (t := a) (by rw [hq1])
 obtain ⟨b1, b2, b3⟩ := qbc hO (t := b) (by rw [hq2])
 rw [hq1] at a3
 rw [hq2] at b3
 have a3 : x = putY o a := a3
 have b3 : x = putY o b := b3
 have hxl : qc x = true := by rw [a3]; exact a2
 have hfa : subF (funR o) a = x := by rw [a3, qdi o a (qv a1)]
 have hfb : subF (funR o) b = x := by rw [b3, qdi o b (qv b1)]
 repeat' (first | refine vs_ ?_ | ((first | refine vr_ ?_ | refine qa hsm fun _ => ?_ | (refine cs_ ?_ ?_ <;> intro hc) | refine cj_ ?_ | fail) <;> (try refine ev_ ?_)) | with_reducible exact ti_)
 obtain ⟨q, hq⟩ := qbla a b
 have hU := qci h1 h2 h3 h4 hq
 obtain ⟨o1, o2, o3⟩ := qrq hq
 obtain ⟨r, g⟩ := q
 dsimp only at o1 o2 o3
 have hb2 := bY2 a b
 have hmost := q1f a1 b1 hq (f := funR o) (hfa.trans hfb.symm)
 by_cases hg : g = 0
 case neg =>
  have hg2 : g = 2 := hmost.elim (fun h => absurd h.1 hg) id
  subst hg2
  have h20 : decide ((2 : Int) = 0) = false := rfl
  have h22 : decide ((2 : Int) = 2) = true := rfl
  refine qhb hU hb2 rfl hg ?_
  (refine ev_ ?_; (try with_reducible exact ti_))
  repeat' (first | refine vs_ ?_ | ((first | refine vr_ ?_ | fail) <;> (try simp only [h20, h22, decide_false, go_sem, ↓reduceIte])) | ((first | (refine cs_ ?_ ?_ <;> intro hc) | refine cj_ ?_ | fail | refine qa qd4 fun _ => ?_) <;> (try refine ev_ ?_)) | with_reducible exact ti_)
 subst hg
 have habs := hmost.elim (fun h => h.2) (fun h => by cases h)
 refine qjw hU hb2 rfl ?_
 (refine ev_ ?_; (try with_reducible exact ti_))
 have fU := qgh o1 (by omega) h1 h2
 rw [hTa] at fU
 obtain ⟨q3, hq3⟩ : ∃ q, appR r a = q := ⟨_, rfl⟩
 rw [hq3] at fU
 obtain ⟨u, h⟩ := q3
 dsimp only at fU
 repeat' (first | refine vs_ ?_ | ((first | refine vr_ ?_ | (refine cs_ ?_ ?_ <;> intro hc) | refine cj_ ?_ | fail) <;> (try refine ev_ ?_)) | with_reducible exact ti_)
 refine qu 5 fU (bY _) (bYi _ _) ?_
 (refine ev_ ?_; (try with_reducible exact ti_))
 by_cases hh : h = 0
 case neg =>
  have hd : decide (h = 0) = false := decide_eq_false hh
  repeat' (first | refine vs_ ?_ | ((first | refine vr_ ?_ | fail) <;> (try simp only [hd, decide_false, go_sem, ↓reduceIte])) | ((first | (refine cs_ ?_ ?_ <;> intro hc) | refine cj_ ?_ | fail | refine qa qd4 fun _ => ?_) <;> (try refine ev_ ?_)) | with_reducible exact ti_)
  all_goals try (exfalso; revert hc; simp; done)
 subst hh
 obtain ⟨u1, u2, u3⟩ := qbc o1 (t := a) (by rw [hq3])
 rw [hq3] at u3
 have u3 : u = putY r a := u3
 have hul : qc u = true := by rw [u3]; exact u2
 have zu := (ql _).1 hul
 have zx := (ql _).1 hxl
 have hab := qqc (p := u) (t := x) (by omega) (by omega) (by omega)
 rw [qv8 o1 hq3 hxl habs hfa] at hab
 repeat' (first | refine vs_ ?_ | ((first | refine vr_ ?_ | refine qa hab fun _ => ?_ | refine qa qd4 fun _ => ?_ | (refine cs_ ?_ ?_ <;> intro hc) | refine cj_ ?_ | fail) <;> (try refine ev_ ?_)) | with_reducible exact ti_)
end Go.Proofs.YtlahgbhhejkgbaaGreat
