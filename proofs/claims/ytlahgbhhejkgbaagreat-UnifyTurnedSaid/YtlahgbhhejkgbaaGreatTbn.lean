/- Texts of this proof, joined. -/
import Derived.Test.YtlahgbhhejkgbaaGreatTbk
import Derived.Test.YtlahgbhhejkgbaaGreatTbm

/- made one: few, awake -/
set_option maxRecDepth 4000
namespace Go.Proofs.YtlahgbhhejkgbaaGreat
open Go Go.RowKit Go.V
set_option linter.unusedVariables false
set_option linter.unusedSimpArgs false

def fewU : List Ty → Nat → Bool
 | [], _ => true
 | x :: r, n => qgv [x] && (decide (n + szY x ≤ 600) && fewU r (n + szY x))
theorem qsa : ∀ (l : List Ty) (n : Nat), fewU l n = true → n ≤ 600 → (∀ x ∈ l, szY x ≤ 20000 ∧ dpY x ≤ 300) ∧ n + szYs l ≤ 600
 | [], n, _, hn => ⟨fun x hx => by simp at hx, by rw [szYs]; exact hn⟩
 | x :: r, n, h, hn => by
   rw [fewU, Bool.and_eq_true, Bool.and_eq_true, decide_eq_true_eq] at h
   obtain ⟨h1, h2, h3⟩ := h
   obtain ⟨h4, h5⟩ := qsa r _ h3 h2
   refine ⟨fun y hy => ?_, by rw [szYs]; omega⟩
   rcases List.mem_cons.1 hy with rfl | hy
   ·exact qor h1
   ·exact h4 y hy
theorem qbsr (l : List Ty) : qn Tryz.prog 7 [.sl 3 (qs l)] (.bool (fewU l 0)) := by
 refine qf c0d (by simp) (by simp only [go_sem]) rfl fun hw => ?_
 have hl : l.length ≤ maxLen := by have := hw.1.1; rwa [qby] at this
 have h10 : decide ((1 : Int) = 0) = false := rfl
 repeat' (first | refine vs_ ?_ | ((first | refine vr_ ?_ | (refine cs_ ?_ ?_ <;> intro hc) | refine cj_ ?_ | simp (disch := omega) only [encs_getN, qb]) <;> (try refine ev_ ?_)) | with_reducible exact ti_)
 refine qq (S := Nat × Nat) (fun x => x.1 ≤ l.length ∧ x.2 ≤ 600 ∧ fewU (l.drop x.1) x.2 = fewU l 0) (fun x => (⟨[(0, .sl 3 (qs l)), (3, .int .i64 x.2), (4, .int .i64 x.1)], []⟩, [])) (fun x => l.length - x.1) ?_ ?_
 ·refine qm (0, 0) [] ⟨Nat.zero_le _, by decide, rfl⟩ rfl (by simp) ?_ ?_ ?_ <;> (try refine ev_ ?_) <;> (try with_reducible exact ti_) <;> (try simp (disch := omega) only [qb, and_true, true_and])
 ·rintro ⟨i, n⟩ ⟨i1, i2, i3⟩
  dsimp only at i1 i2 i3 ⊢
  by_cases hlt : i < l.length
  ·have hg := q6 hlt
   rw [qhf hlt, fewU] at i3
   cases hf : qgv [l.getD i Y0] with
   | false =>
     rw [hf, Bool.false_and] at i3
     have hF : qn Tryz.prog 22 [.sl 3 [encY (l.getD i Y0)]] (.int .i64 0) := by
      have := qz6 hf
      rwa [← qk7] at this
     rw [← i3]
     repeat' (first | refine vs_ ?_ | ((first | refine vr_ ?_ | fail) <;> (try simp (disch := first | omega | (simp only [List.length_set, List.length_append, List.length_cons, List.length_nil]; done) | (simp only [List.length_set, List.length_append, List.length_cons, List.length_nil]; omega)) only [hg, qb, go_sem, ↓reduceIte])) | ((first | simp (disch := omega) only [hg] | (refine cs_ ?_ ?_ <;> intro hc) | refine cj_ ?_ | simp (disch := omega) only [encs_getN, qb] | refine qa hF fun _ => ?_) <;> (try refine ev_ ?_)) | with_reducible exact ti_)
     all_goals try (exfalso; omega)
   | true =>
     rw [hf, Bool.true_and] at i3
     obtain ⟨m1, m2⟩ := qor hf
     have hF : qn Tryz.prog 22 [.sl 3 [encY (l.getD i Y0)]] (.int .i64 1) := by
      have := qv1 hf
      rwa [← qk7] at this
     have hS := qkw (l.getD i Y0)
     rw [qhj _ (by omega)] at hS
     have hw : IntKind.i64.wrap ((n : Int) + szY (l.getD i Y0)) = ((n + szY (l.getD i Y0) : Nat) : Int) := by rw [qt (by omega) (by omega)]; omega
     by_cases h6 : n + szY (l.getD i Y0) ≤ 600
     ·rw [decide_eq_true h6, Bool.true_and] at i3
      repeat' (first | refine vs_ ?_ | ((first | refine vr_ ?_ | fail) <;> (try simp (disch := first | omega | (simp only [List.length_set, List.length_append, List.length_cons, List.length_nil]; done) | (simp only [List.length_set, List.length_append, List.length_cons, List.length_nil]; omega)) only [h10, hg, hw, qb, go_sem, ↓reduceIte])) | ((first | simp (disch := omega) only [hg] | simp (disch := omega) only [hw] | (refine cs_ ?_ ?_ <;> intro hc) | refine cj_ ?_ | simp (disch := omega) only [encs_getN, qb] | refine qa hF fun _ => ?_ | refine qa hS fun _ => ?_) <;> (try refine ev_ ?_)) | with_reducible exact ti_)
      all_goals try (exfalso; omega)
      refine qm (i + 1, n + szY (l.getD i Y0)) [] ⟨⟨by dsimp only; omega, h6, i3⟩, by dsimp only; omega⟩ rfl (by simp) ?_ ?_ ?_ <;> (try refine ev_ ?_) <;> (try with_reducible exact ti_) <;> (try simp (disch := omega) only [qb, and_true, true_and])
     ·rw [decide_eq_false h6, Bool.false_and] at i3
      rw [← i3]
      repeat' (first | refine vs_ ?_ | ((first | refine vr_ ?_ | fail) <;> (try simp (disch := first | omega | (simp only [List.length_set, List.length_append, List.length_cons, List.length_nil]; done) | (simp only [List.length_set, List.length_append, List.length_cons, List.length_nil]; omega)) only [h10, hg, hw, qb, go_sem, ↓reduceIte])) | ((first | simp (disch := omega) only [hg] | simp (disch := omega) only [hw] | (refine cs_ ?_ ?_ <;> intro hc) | refine cj_ ?_ | simp (disch := omega) only [encs_getN, qb] | refine qa hF fun _ => ?_ | refine qa hS fun _ => ?_) <;> (try refine ev_ ?_)) | with_reducible exact ti_)
      all_goals try (exfalso; omega)
  ·rw [List.drop_of_length_le (by omega), fewU] at i3
   rw [← i3]
   repeat' (first | refine vs_ ?_ | ((first | refine vr_ ?_ | (refine cs_ ?_ ?_ <;> intro hc) | refine cj_ ?_ | simp (disch := omega) only [encs_getN, qb]) <;> (try refine ev_ ?_)) | with_reducible exact ti_)
   all_goals try (exfalso; omega)
theorem qcb {s : List UInt8} {t : Ty} {e : Int} (h : rdOK s) (hr : q4e s = (t, e)) : qn Tryz.prog 24 [.str s] (encY t) := by
 have hR := qt3 h
 rw [hr] at hR
 refine qf c0e (by simp) (by simp only [go_sem]) (qz 0 _) fun hw => ?_
 repeat' (first | refine vs_ ?_ | ((first | refine vr_ ?_ | refine qa hR fun _ => ?_ | (refine cs_ ?_ ?_ <;> intro hc) | refine cj_ ?_ | fail) <;> (try refine ev_ ?_)) | with_reducible exact ti_)
def uC : Ty := ⟨[], 2, []⟩
def uTA : Ty := ⟨[84], 0, [Y0]⟩
def fU (a b : Ty) : Ty := ⟨[45, 62], 0, [a, b]⟩
theorem u_aT : qn Tryz.prog 24 [.str [97, 32, 45, 62, 32, 84]] (encY (fU Y0 wT)) := qcb (qe0 (t := fU Y0 wT) (r := ⟨[], 0, false⟩) rfl (by decide) (by decide) (by decide) (by decide) (by decide)) (e := 0) rfl
theorem u_Ub : qn Tryz.prog 24 [.str [85, 32, 45, 62, 32, 98]] (encY (fU wU wB)) := qcb (qe0 (t := fU wU wB) (r := ⟨[], 0, false⟩) rfl (by decide) (by decide) (by decide) (by decide) (by decide)) (e := 0) rfl
theorem u_T : qn Tryz.prog 24 [.str [84]] (encY wT) := qcb (qe0 (t := wT) (r := ⟨[], 0, false⟩) rfl (by decide) (by decide) (by decide) (by decide) (by decide)) (e := 0) rfl
theorem u_U : qn Tryz.prog 24 [.str [85]] (encY wU) := qcb (qe0 (t := wU) (r := ⟨[], 0, false⟩) rfl (by decide) (by decide) (by decide) (by decide) (by decide)) (e := 0) rfl
theorem u_a : qn Tryz.prog 24 [.str [97]] (encY Y0) := qcb (qe0 (t := Y0) (r := ⟨[], 0, false⟩) rfl (by decide) (by decide) (by decide) (by decide) (by decide)) (e := 0) rfl
theorem u_Ta : qn Tryz.prog 24 [.str [84, 32, 97]] (encY uTA) := qcb (qe0 (t := uTA) (r := ⟨[], 0, false⟩) rfl (by decide) (by decide) (by decide) (by decide) (by decide)) (e := 0) rfl
theorem u_ac : qn Tryz.prog 24 [.str [97, 32, 45, 62, 32, 99]] (encY (fU Y0 uC)) := qcb (qe0 (t := fU Y0 uC) (r := ⟨[], 0, false⟩) rfl (by decide) (by decide) (by decide) (by decide) (by decide)) (e := 0) rfl
theorem u_cU : qn Tryz.prog 24 [.str [99, 32, 45, 62, 32, 85]] (encY (fU uC wU)) := qcb (qe0 (t := fU uC wU) (r := ⟨[], 0, false⟩) rfl (by decide) (by decide) (by decide) (by decide) (by decide)) (e := 0) rfl
def U1 : List Pr := [⟨0, wU⟩, ⟨1, wT⟩]
def U2 : List Pr := [⟨2, wU⟩]
def U3 : List Pr := [⟨0, wU⟩, ⟨1, wT⟩, ⟨2, wU⟩]
theorem uq1 : UniQ (fU Y0 wT) (fU wU wB) (U1, 0) := by rw [UniQ, if_pos ⟨rfl, rfl⟩]; exact ⟨10, rfl⟩
theorem uq2 : UniQ (fU Y0 wT) wT ([], 14) := by rw [UniQ, if_pos ⟨rfl, rfl⟩]; exact ⟨10, rfl⟩
theorem uq3 : UniQ Y0 uTA ([], 15) := by rw [UniQ, if_pos ⟨rfl, rfl⟩]; exact ⟨10, rfl⟩
theorem uq4 : AllQ [Y0, Y0] [wT, wU] ([], 14) := by rw [AllQ, if_pos ⟨rfl, rfl⟩, if_pos (show [Y0, Y0].length = [wT, wU].length from rfl)]; exact ⟨10, rfl⟩
theorem uq5 : UniQ (fU wU uC) (fU uC wU) (U2, 0) := by rw [UniQ, if_pos ⟨rfl, rfl⟩]; exact ⟨10, rfl⟩
theorem uq6 : AprQ Y0 uTA false := by rw [AprQ, if_pos ⟨rfl, rfl⟩]; exact ⟨([⟨0, ⟨[84], 0, [⟨[], 1, []⟩]⟩⟩], 0), by rw [UniQ, if_pos ⟨rfl, rfl⟩]; exact ⟨10, rfl⟩, rfl⟩
theorem uq7 : AprQ uTA wU true := by rw [AprQ, if_pos ⟨rfl, rfl⟩]; exact ⟨([], 14), by rw [UniQ, if_pos ⟨rfl, rfl⟩]; exact ⟨10, rfl⟩, rfl⟩
theorem av1 : VCalls Tryz.prog 9 [] [encY (fU Y0 wT), encY (fU wU wB)] (newQ [] (U1, 0)) := qb9 (by decide) (by decide) (by decide) (by decide) uq1
theorem av2 : VCalls Tryz.prog 9 [] [encY (fU Y0 wT), encY wT] (newQ [] ([], 14)) := qb9 (by decide) (by decide) (by decide) (by decide) uq2
theorem av3 : VCalls Tryz.prog 9 [] [encY Y0, encY uTA] (newQ [] ([], 15)) := qb9 (by decide) (by decide) (by decide) (by decide) uq3
theorem av4 : VCalls Tryz.prog 13 [] [.sl 3 [encY Y0, encY Y0], .sl 3 [encY wT, encY wU]] (newQ [] ([], 14)) := by
 rw [qew, qew]
 exact qwl (fun x hx => by simp at hx; subst hx; exact ⟨by decide, by decide⟩) (fun x hx => by simp at hx; rcases hx with rfl | rfl <;> exact ⟨by decide, by decide⟩) (by decide) uq4
theorem U1_ok : okS U1 := by have h := (qou uq1).1; exact h
theorem U3_ok : okS U3 := by
 have h : behR U1 U2 = (U3, 0) := rfl
 have := qpz U1_ok (qou uq5).1
 rw [h] at this
 exact this
theorem av5 : VCalls Tryz.prog 26 [subE U1] [.ptr 0 0, encY (fU Y0 uC), encY (fU uC wU)] fun H' o => H' = [subE U1, subE U3] ∧ o = .val (.tup [.ptr 1 0, .int .i64 0]) := qud (A := fU wU uC) (B := fU uC wU) U1_ok (by decide) rfl rfl rfl rfl uq5 rfl
theorem ag0 : VM Tryz.prog 25 (subE U1) (subE U1) [.ptr 0 0, .int .i64 0] (.tup [encY wU, .bool true]) := qht U1_ok.1 (by decide) 0
theorem ag1 : VM Tryz.prog 25 (subE U1) (subE U1) [.ptr 0 0, .int .i64 1] (.tup [encY wT, .bool true]) := qht U1_ok.1 (by decide) 1
theorem ag2 : VM Tryz.prog 25 (subE U3) (subE U3) [.ptr 0 0, .int .i64 2] (.tup [encY wU, .bool true]) := qht U3_ok.1 (by decide) 2
theorem av6 : qn Tryz.prog 15 [encY Y0, encY uTA] (.bool false) := qi3 (by decide) (by decide) (by decide) (by decide) uq6
theorem av7 : qn Tryz.prog 15 [encY uTA, encY wU] (.bool true) := qi3 (by decide) (by decide) (by decide) (by decide) uq7
theorem bY2 (a b : Ty) : AV.bds 0 [encY a, encY b] = true := by simp only [AV.bds, qz, Bool.and_true]
theorem bS2 (a b c d : Ty) : AV.bds 0 [.sl 3 [encY a, encY b], .sl 3 [encY c, encY d]] = true := by simp only [AV.bds, AV.bd, qz, Bool.and_true]
theorem q0y {L : List Ent} {Q : List Ent → VO → Prop} (hq : Q (L ++ [subE U3]) (.val (.tup [.ptr L.length 0, .int .i64 0]))) (he : ent L 0 = subE U1 := by rfl) (hl : 0 < L.length := by simp) : VApp Tryz.prog L (.fn 26 [] []) [.ptr 0 0, encY (fU Y0 uC), encY (fU uC wU)] Q := by
 refine qbv ?_
 rw [List.nil_append, List.append_nil]
 refine q9 [0] av5 (by simp) ⟨⟨hl, rfl, by rw [he]; rfl⟩, trivial⟩ (by simp only [AV.bds, AV.bd, qz, Bool.and_true]; rfl) (by simp only [AV.rens, AV.ren, qe5]; rfl) fun H1 o ho => ?_
 obtain ⟨rfl, rfl⟩ := ho
 have e1 : qdy L [0] [subE U1, subE U3] = L ++ [subE U3] := by
  show (L.set 0 (subE U1)) ++ [subE U3] = _
  rw [qb3 he hl]
 rw [e1]
 show Q _ (.val (.tup [.ptr (L.length + (1 - 1)) 0, .int .i64 0]))
 exact hq
set_option maxHeartbeats 2000000 in
theorem qed : qn Tryz.prog 8 [] (.bool true) := by
 refine qf c0f (by simp) rfl rfl fun hw => ?_
 repeat' (first | refine vs_ ?_ | ((first | refine vr_ ?_ | refine qa u_aT fun _ => ?_ | refine qa u_Ub fun _ => ?_ | refine qei av1 (bY2 _ _) rfl ?_ | refine qu 0 ag0 rfl rfl ?_ | refine qu 0 ag1 rfl rfl ?_ | (refine cs_ ?_ ?_ <;> intro hc) | refine cj_ ?_ | fail) <;> (try refine ev_ ?_)) | with_reducible exact ti_)
 repeat' (first | refine vs_ ?_ | ((first | refine vr_ ?_ | refine qa u_T fun _ => ?_ | refine qd3 av2 (bY2 _ _) rfl (by decide) ?_ | refine qa u_a fun _ => ?_ | refine qa u_Ta fun _ => ?_ | refine qd3 av3 (bY2 _ _) rfl (by decide) ?_ | (refine cs_ ?_ ?_ <;> intro hc) | refine cj_ ?_ | fail) <;> (try refine ev_ ?_)) | with_reducible exact ti_)
 repeat' (first | refine vs_ ?_ | ((first | refine vr_ ?_ | refine qa u_U fun _ => ?_ | refine qa u_T fun _ => ?_ | refine qd3 av4 (bS2 _ _ _ _) rfl (by decide) ?_ | (refine cs_ ?_ ?_ <;> intro hc) | refine cj_ ?_ | fail) <;> (try refine ev_ ?_)) | with_reducible exact ti_)
 repeat' (first | refine vs_ ?_ | ((first | refine vr_ ?_ | refine qa u_ac fun _ => ?_ | refine qa u_cU fun _ => ?_ | refine q0y ?_ | (refine cs_ ?_ ?_ <;> intro hc) | refine cj_ ?_ | fail) <;> (try refine ev_ ?_)) | with_reducible exact ti_)
 have cU : wU.con = [85] := rfl
 have cT : wT.con = [84] := rfl
 repeat' (first | refine vs_ ?_ | ((first | refine vr_ ?_ | fail) <;> (try simp only [cU, cT, go_sem, ↓reduceIte])) | ((first | (refine cs_ ?_ ?_ <;> intro hc) | refine cj_ ?_ | fail | refine qu 3 ag2 rfl rfl ?_) <;> (try refine ev_ ?_)) | with_reducible exact ti_)
 repeat' (first | refine vs_ ?_ | ((first | refine vr_ ?_ | refine qa u_a fun _ => ?_ | refine qa u_Ta fun _ => ?_ | refine qa u_U fun _ => ?_ | refine qa av6 fun _ => ?_ | refine qa av7 fun _ => ?_ | (refine cs_ ?_ ?_ <;> intro hc) | refine cj_ ?_ | fail) <;> (try refine ev_ ?_)) | with_reducible exact ti_)

theorem qxa {a b : Ty} {q : List Pr × Int} (h : UniQ a b q) (he : q.2 = 0) : qc a = true ∧ qc b = true ∧ ∃ n, slvU n [] [(a, b)] = some q := by
 rw [UniQ] at h
 split at h
 ·rename_i hl; exact ⟨hl.1, hl.2, h⟩
 ·subst h; cases he
theorem qzs {a b : Ty} (h : fewU [a, b] 0 = true) : szY a ≤ 20000 ∧ dpY a ≤ 300 ∧ szY b ≤ 20000 ∧ dpY b ≤ 300 := by
 have h1 := (qsa [a, b] 0 h (by decide)).1
 obtain ⟨p1, p2⟩ := h1 a (by simp)
 obtain ⟨p3, p4⟩ := h1 b (by simp)
 exact ⟨p1, p2, p3, p4⟩
theorem qyy (a b : Ty) : qn Tryz.prog 7 [.sl 3 [encY a, encY b]] (.bool (fewU [a, b] 0)) := by
 have := qbsr [a, b]
 rwa [← qew] at this
set_option maxRecDepth 4000

theorem qbr9 {p t : Ty} (hp : qc p = true) (ht : qc t = true) {f : Int → Ty} (h : subF f p = t) : (onP p t []).2 = true :=
 (qblf (p := p) (t := t) (of_decide_eq_true ((qbix hp ht).2 ⟨f, h⟩))).2.2.1
theorem ql8 {a b : Ty} {r : List Pr} {e : Int} (ha : qc a = true) (hb : qc b = true) (h : UniQ a b (r, e)) {f : Int → Ty} (hf : subF f a = subF f b) : (e = 0 ∧ abs f r) ∨ e = 2 := by
 rw [UniQ, if_pos ⟨ha, hb⟩] at h
 obtain ⟨n, hq⟩ := h
 exact qom f n [] _ (r, e) (qi0 ha hb) hq (qbcn f) (fun x hx => by simp at hx; subst hx; exact hf)
theorem qn1 {r : List Pr} {f : Int → Ty} (ho : okS r) {a u x : Ty} (hu : appR r a = (u, 0)) (hx : qc x = true) (h : abs f r) (hf : subF f a = x) : (onP u x []).2 = true := by
 obtain ⟨q1, q2, q3⟩ := qbg ho (t := a) (by rw [hu])
 rw [hu] at q3
 have q3 : u = putY r a := q3
 subst q3
 exact qbr9 (f := f) q2 hx (by rw [qfu h (qv q1), hf])
def qbsz (l m : List Ty) (s : List Pr) (x : Nat × List Pr × Bool) : Prop := x.1 ≤ l.length ∧ okS x.2.1 ∧ x.2.1.length + szYs (l.drop x.1) ≤ 100000 ∧ (x.2.2 = true → onPs (l.drop x.1) (m.drop x.1) x.2.1 = onPs l m s) ∧ (x.2.2 = false → onPs l m s = (x.2.1, false))
def onF (p t : Ty) (x : Nat × List Pr × Bool) : AF × List Ent := (⟨[(0, .sl 4 (q7 x.2.1)), (4, .ptr 0 0), (5, .ptr 1 0), (12, .bool x.2.2), (13, .int .i64 x.1)], []⟩, [.blk (yc p), .blk (yc t)])
theorem bOn (q : List Pr × Bool) : AV.bd 0 (.tup [.sl 4 (q7 q.1), .bool q.2]) = true := by simp only [AV.bds, AV.bd, qb1, Bool.and_true]
set_option maxHeartbeats 2000000 in
theorem q1e : ∀ p t s, okS s → s.length + szY p ≤ 100000 → szY t ≤ 20000 → dpY t ≤ 300 → qn Tryz.prog 39 [.sl 4 (q7 s), encY p, encY t] (.tup [.sl 4 (q7 (onP p t s).1), .bool (onP p t s).2]) := by
 refine Ty.ind fun p ih t s h1 h2 h3 h4 => ?_
 refine qf c0a (by simp) (by simp only [AV.bds, AV.bd, qb1, qz, Bool.and_true]) (bOn _) fun hw => ?_
 have hkp := qcv hw.2.1
 have hkt := qcv hw.2.2.1
 have hG := qo2 s p.var
 have hS : qn Tryz.prog 53 [.sl 4 (q7 s), .int .i64 p.var, encY t] (.tup [.sl 4 (q7 (setR s p.var t).1), .int .i64 (setR s p.var t).2]) := qxq (s := s) (v := p.var) (by omega) h3 h4
 rw [qbl2]
 by_cases hc : p.con = []
 ·simp only [if_pos hc]
  cases hlk : qi p.var s with
  | some u =>
    rw [getA, hlk] at hG
    repeat' (first | refine vs_ ?_ | ((first | refine vr_ ?_ | fail) <;> (try simp only [hc, go_sem, ↓reduceIte])) | ((first | (refine cs_ ?_ ?_ <;> intro hc) | refine cj_ ?_ | simp (disch := omega) only [encs_getN, qb] | refine qa hG fun _ => ?_ | refine qa (qla _ _) fun _ => ?_ | refine qg hG ?_ | refine qg (qla _ _) ?_) <;> (try refine ev_ ?_)) | with_reducible exact ti_)
  | none =>
    rw [getA, hlk] at hG
    repeat' (first | refine vs_ ?_ | ((first | refine vr_ ?_ | fail) <;> (try simp only [hc, go_sem, ↓reduceIte])) | ((first | (refine cs_ ?_ ?_ <;> intro hc) | refine cj_ ?_ | simp (disch := omega) only [encs_getN, qb] | refine qa hG fun _ => ?_ | refine qa hS fun _ => ?_ | refine qg hG ?_ | refine qg hS ?_) <;> (try refine ev_ ?_)) | with_reducible exact ti_)
 ·simp only [if_neg hc]
  by_cases hct : p.con = t.con
  case neg =>
   simp only [if_neg hct]
   have hctd : decide (p.con = t.con) = false := decide_eq_false hct
   repeat' (first | refine vs_ ?_ | ((first | refine vr_ ?_ | fail) <;> (try simp only [hc, hct, hctd, go_sem, ↓reduceIte])) | ((first | (refine cs_ ?_ ?_ <;> intro hc) | refine cj_ ?_ | simp (disch := omega) only [encs_getN, qb]) <;> (try refine ev_ ?_)) | with_reducible exact ti_)
   refine qq (S := Unit) (fun _ => True) (fun _ => onF p t (0, s, false)) (fun _ => 0) ?_ fun x hx => ?_
   ·refine qm () [0, 1] trivial rfl (by simp) ?_ ?_ ?_ <;> simp only [onF] <;> (try refine ev_ ?_) <;> (try with_reducible exact ti_) <;> (try simp (disch := omega) only [qb, and_true, true_and])
    all_goals rfl
   ·unfold onF
    repeat' (first | refine vs_ ?_ | ((first | refine vr_ ?_ | (refine cs_ ?_ ?_ <;> intro hc) | refine cj_ ?_ | simp (disch := omega) only [encs_getN, qb]) <;> (try refine ev_ ?_)) | with_reducible exact ti_)
  have hcT : ¬ t.con = [] := hct ▸ hc
  by_cases hlm : p.args.length = t.args.length
  case neg =>
   have hlmi : ¬ (p.args.length : Int) = t.args.length := by omega
   simp only [if_pos hct, if_neg hlm]
   repeat' (first | refine vs_ ?_ | ((first | refine vr_ ?_ | fail) <;> (try simp only [hc, hct, hcT, hlmi, go_sem, ↓reduceIte])) | ((first | (refine cs_ ?_ ?_ <;> intro hc) | refine cj_ ?_ | simp (disch := omega) only [encs_getN, qb]) <;> (try refine ev_ ?_)) | with_reducible exact ti_)
   refine qq (S := Unit) (fun _ => True) (fun _ => onF p t (0, s, false)) (fun _ => 0) ?_ fun x hx => ?_
   ·refine qm () [0, 1] trivial rfl (by simp) ?_ ?_ ?_ <;> simp only [onF] <;> (try refine ev_ ?_) <;> (try with_reducible exact ti_) <;> (try simp (disch := omega) only [qb, and_true, true_and])
    all_goals (rw [hct])
   ·unfold onF
    repeat' (first | refine vs_ ?_ | ((first | refine vr_ ?_ | (refine cs_ ?_ ?_ <;> intro hc) | refine cj_ ?_ | simp (disch := omega) only [encs_getN, qb]) <;> (try refine ev_ ?_)) | with_reducible exact ti_)
  have hlmi : (p.args.length : Int) = t.args.length := by omega
  simp only [if_pos hct, if_pos hlm]
  repeat' (first | refine vs_ ?_ | ((first | refine vr_ ?_ | fail) <;> (try simp only [hc, hct, hcT, hlmi, go_sem, ↓reduceIte])) | ((first | (refine cs_ ?_ ?_ <;> intro hc) | refine cj_ ?_ | simp (disch := omega) only [encs_getN, qb]) <;> (try refine ev_ ?_)) | with_reducible exact ti_)
  refine qq (S := Nat × List Pr × Bool) (qbsz p.args t.args s) (onF p t) (fun x => p.args.length - x.1) ?_ ?_
  ·refine qm (0, s, true) [0, 1] ⟨Nat.zero_le _, h1, by rw [qf5] at h2; show s.length + szYs (p.args.drop 0) ≤ _; rw [List.drop_zero]; omega, fun _ => rfl, fun h => nomatch h⟩ rfl (by simp) ?_ ?_ ?_ <;> simp only [onF] <;> (try refine ev_ ?_) <;> (try with_reducible exact ti_) <;> (try simp (disch := omega) only [qb, and_true, true_and])
   all_goals (rw [hct])
  ·rintro ⟨i, s1, b⟩ ⟨hi, ho1, hs1, ha, hb⟩
   dsimp only at hi ho1 hs1 ha hb
   unfold onF
   dsimp only
   cases b with
   | false =>
     rw [hb rfl]
     repeat' (first | refine vs_ ?_ | ((first | refine vr_ ?_ | (refine cs_ ?_ ?_ <;> intro hc) | refine cj_ ?_ | simp (disch := omega) only [encs_getN, qb]) <;> (try refine ev_ ?_)) | with_reducible exact ti_)
   | true =>
     have ha := ha rfl
     by_cases hlt : i < p.args.length
     ·have hmt : i < t.args.length := by omega
      have q1 := qi6 (qbr hmt)
      have q2 := qmz (qbr hmt)
      rw [qf5] at h3
      rw [qra] at h4
      rw [qyx hlt hmt] at ha
      rw [qhf hlt, szYs] at hs1
      have hon := ih _ (qbr hlt) (t.args.getD i Y0) s1 ho1 (by omega) (by omega) (by omega)
      have hok := q5o (p.args.getD i Y0) (t.args.getD i Y0) s1 ho1
      have hg := q6 hlt
      have hg' := q6 hmt
      obtain ⟨q, hqe⟩ : ∃ q, onP (p.args.getD i Y0) (t.args.getD i Y0) s1 = q := ⟨_, rfl⟩
      rw [hqe] at ha hon hok
      repeat' (first | refine vs_ ?_ | ((first | refine vr_ ?_ | fail) <;> (try simp (disch := first | omega | (simp only [List.length_set, List.length_append, List.length_cons, List.length_nil]; done) | (simp only [List.length_set, List.length_append, List.length_cons, List.length_nil]; omega)) only [hg, hg', qb, go_sem, ↓reduceIte])) | ((first | simp (disch := omega) only [hg] | simp (disch := omega) only [hg'] | (refine cs_ ?_ ?_ <;> intro hc) | refine cj_ ?_ | simp (disch := omega) only [encs_getN, qb] | refine qa hon fun _ => ?_ | refine qg hon ?_) <;> (try refine ev_ ?_)) | with_reducible exact ti_)
      all_goals try (exfalso; omega)
      refine qm (i + 1, q.1, q.2) [0, 1] ⟨⟨by dsimp only; omega, hok.1, by dsimp only; omega, fun h => ?_, fun h => ?_⟩, by dsimp only; omega⟩ rfl (by simp) ?_ ?_ ?_ <;> (try simp only [onF]) <;> (try refine ev_ ?_) <;> (try with_reducible exact ti_) <;> (try simp (disch := omega) only [qb, and_true, true_and])
      ·dsimp only at h; rw [if_pos h] at ha; exact ha
      ·dsimp only at h; rw [h, if_neg (by simp)] at ha; exact ha.symm
     ·rw [qz9 (by omega)] at ha
      rw [← ha]
      repeat' (first | refine vs_ ?_ | ((first | refine vr_ ?_ | (refine cs_ ?_ ?_ <;> intro hc) | refine cj_ ?_ | simp (disch := omega) only [encs_getN, qb]) <;> (try refine ev_ ?_)) | with_reducible exact ti_)
      all_goals try (exfalso; omega)
theorem qkg {p t : Ty} (h1 : szY p ≤ 20000) (h3 : szY t ≤ 20000) (h4 : dpY t ≤ 300) : qn Tryz.prog 21 [encY p, encY t] (.bool (onP p t []).2) := by
 refine qf c0b (by simp) (bY2 _ _) rfl fun hw => ?_
 have hO := q1e p t [] qcu (by simp; omega) h3 h4
 have hO : qn Tryz.prog 39 [.sl 4 [], encY p, encY t] _ := hO
 repeat' (first | refine vs_ ?_ | ((first | refine vr_ ?_ | refine qa hO fun _ => ?_ | (refine cs_ ?_ ?_ <;> intro hc) | refine cj_ ?_ | fail) <;> (try refine ev_ ?_)) | with_reducible exact ti_)
theorem ql9 {a b : Ty} {r : List Pr} (h : UniQ a b (r, 0)) : qc a = true ∧ qc b = true ∧ subF (funR r) a = subF (funR r) b := by
 obtain ⟨ha, hb, n, hq⟩ := qxa h rfl
 obtain ⟨h1, h2, h3⟩ := qg4 n [] _ (r, 0) (qi0 ha hb) hq rfl
 exact ⟨ha, hb, h3 (a, b) (by simp)⟩
set_option maxHeartbeats 4000000 in
theorem qj1 (a b : Ty) : qn Tryz.prog 6 [encY a, encY b] (.bool true) := by
 refine qf c0c (by simp) (bY2 _ _) rfl fun hw => ?_
 have hF := qyy a b
 cases hf : fewU [a, b] 0 with
 | false =>
   rw [hf] at hF
   repeat' (first | refine vs_ ?_ | ((first | refine vr_ ?_ | refine qa hF fun _ => ?_ | refine qa qed fun _ => ?_ | (refine cs_ ?_ ?_ <;> intro hc) | refine cj_ ?_ | fail) <;> (try refine ev_ ?_)) | with_reducible exact ti_)
 | true =>
 rw [hf] at hF
 obtain ⟨h1, h2, h3, h4⟩ := qzs hf
 obtain ⟨q, hq⟩ := q48 a b
 obtain ⟨q', hq'⟩ := q48 b a
 have hU := qb9 h1 h2 h3 h4 hq
 have hU' := qb9 h3 h4 h1 h2 hq'
 obtain ⟨o1, o2, o3⟩ := qou hq
 obtain ⟨o1', o2', o3'⟩ := qou hq'
 obtain ⟨r, e⟩ := q
 obtain ⟨r', e'⟩ := q'
 dsimp only at o1 o2 o3 o1' o2' o3'
 have hb2 := bY2 a b
 have hb2' := bY2 b a
 have h20 : decide ((2 : Int) = 0) = false := rfl
 have h22 : decide ((2 : Int) = 2) = true := rfl
 have h02 : decide ((0 : Int) = 2) = false := rfl
 by_cases he : e = 0
 case neg =>
  have hd : decide (e = 0) = false := decide_eq_false he
  by_cases he' : e' = 0
  case neg =>
   have hd' : decide (e' = 0) = false := decide_eq_false he'
   repeat' (first | refine vs_ ?_ | ((first | refine vr_ ?_ | refine qa hF fun _ => ?_ | (refine cs_ ?_ ?_ <;> intro hc) | refine cj_ ?_ | fail) <;> (try refine ev_ ?_)) | with_reducible exact ti_)
   refine qd3 hU hb2 rfl he ?_
   (refine ev_ ?_; (try with_reducible exact ti_))
   repeat' (first | refine vs_ ?_ | ((first | refine vr_ ?_ | (refine cs_ ?_ ?_ <;> intro hc) | refine cj_ ?_ | fail) <;> (try refine ev_ ?_)) | with_reducible exact ti_)
   refine qd3 hU' hb2' rfl he' ?_
   (refine ev_ ?_; (try with_reducible exact ti_))
   repeat' (first | refine vs_ ?_ | ((first | refine vr_ ?_ | fail) <;> (try simp only [hd, hd', decide_false, go_sem, ↓reduceIte])) | ((first | (refine cs_ ?_ ?_ <;> intro hc) | refine cj_ ?_ | fail | refine qa qed fun _ => ?_) <;> (try refine ev_ ?_)) | with_reducible exact ti_)
   all_goals try (exfalso; revert hc; simp; done)
  subst he'
  -- the other way: it must be a limit
  obtain ⟨hb, ha, hs⟩ := ql9 hq'
  have he2 : e = 2 := (ql8 ha hb hq (f := funR r') hs.symm).elim (fun h => absurd h.1 he) id
  subst he2
  repeat' (first | refine vs_ ?_ | ((first | refine vr_ ?_ | refine qa hF fun _ => ?_ | (refine cs_ ?_ ?_ <;> intro hc) | refine cj_ ?_ | fail) <;> (try refine ev_ ?_)) | with_reducible exact ti_)
  refine qd3 hU hb2 rfl he ?_
  (refine ev_ ?_; (try with_reducible exact ti_))
  repeat' (first | refine vs_ ?_ | ((first | refine vr_ ?_ | (refine cs_ ?_ ?_ <;> intro hc) | refine cj_ ?_ | fail) <;> (try refine ev_ ?_)) | with_reducible exact ti_)
  refine qei hU' hb2' rfl ?_
  (refine ev_ ?_; (try with_reducible exact ti_))
  repeat' (first | refine vs_ ?_ | ((first | refine vr_ ?_ | fail) <;> (try simp only [h20, h22, h02, decide_false, go_sem, ↓reduceIte])) | ((first | (refine cs_ ?_ ?_ <;> intro hc) | refine cj_ ?_ | fail | refine qa qed fun _ => ?_) <;> (try refine ev_ ?_)) | with_reducible exact ti_)
 subst he
 obtain ⟨ha, hb, hs⟩ := ql9 hq
 have hm := ql8 hb ha hq' (f := funR r) hs.symm
 by_cases he' : e' = 0
 case neg =>
  have he2 : e' = 2 := hm.elim (fun h => absurd h.1 he') id
  subst he2
  repeat' (first | refine vs_ ?_ | ((first | refine vr_ ?_ | refine qa hF fun _ => ?_ | (refine cs_ ?_ ?_ <;> intro hc) | refine cj_ ?_ | fail) <;> (try refine ev_ ?_)) | with_reducible exact ti_)
  refine qei hU hb2 rfl ?_
  (refine ev_ ?_; (try with_reducible exact ti_))
  repeat' (first | refine vs_ ?_ | ((first | refine vr_ ?_ | (refine cs_ ?_ ?_ <;> intro hc) | refine cj_ ?_ | fail) <;> (try refine ev_ ?_)) | with_reducible exact ti_)
  refine qd3 hU' hb2' rfl he' ?_
  (refine ev_ ?_; (try with_reducible exact ti_))
  repeat' (first | refine vs_ ?_ | ((first | refine vr_ ?_ | fail) <;> (try simp only [h20, h22, h02, decide_false, go_sem, ↓reduceIte])) | ((first | (refine cs_ ?_ ?_ <;> intro hc) | refine cj_ ?_ | fail | refine qa qed fun _ => ?_) <;> (try refine ev_ ?_)) | with_reducible exact ti_)
 subst he'
 obtain ⟨_, _, hs'⟩ := ql9 hq'
 have ab' : abs (funR r) r' := hm.elim (fun h => h.2) (fun h => by cases h)
 have ab : abs (funR r') r := (ql8 ha hb hq (f := funR r') hs'.symm).elim (fun h => h.2) (fun h => by cases h)
 have fX := qig o1 (by omega) h1 h2
 have fY := qig o1' (by omega) h1 h2
 have hTa : ∀ q : Ty × Int, typA q = .tup [encY q.1, .int .i64 q.2] := fun _ => rfl
 rw [hTa] at fX fY
 obtain ⟨q1, hq1⟩ : ∃ q, appR r a = q := ⟨_, rfl⟩
 obtain ⟨q2, hq2⟩ : ∃ q, appR r' a = q := ⟨_, rfl⟩
 rw [hq1] at fX
 rw [hq2] at fY
 obtain ⟨x, g⟩ := q1
 obtain ⟨y, h⟩ := q2
 dsimp only at fX fY
 repeat' (first | refine vs_ ?_ | ((first | refine vr_ ?_ | refine qa hF fun _ => ?_ | (refine cs_ ?_ ?_ <;> intro hc) | refine cj_ ?_ | fail) <;> (try refine ev_ ?_)) | with_reducible exact ti_)
 refine qei hU hb2 rfl ?_
 (refine ev_ ?_; (try with_reducible exact ti_))
 repeat' (first | refine vs_ ?_ | ((first | refine vr_ ?_ | (refine cs_ ?_ ?_ <;> intro hc) | refine cj_ ?_ | fail) <;> (try refine ev_ ?_)) | with_reducible exact ti_)
 refine qei hU' hb2' rfl ?_
 (refine ev_ ?_; (try with_reducible exact ti_))
 repeat' (first | refine vs_ ?_ | ((first | refine vr_ ?_ | fail) <;> (try simp only [h02, decide_false, go_sem, ↓reduceIte])) | ((first | (refine cs_ ?_ ?_ <;> intro hc) | refine cj_ ?_ | fail) <;> (try refine ev_ ?_)) | with_reducible exact ti_)
 refine qu 2 fX (bY _) (bYi _ _) ?_
 (refine ev_ ?_; (try with_reducible exact ti_))
 repeat' (first | refine vs_ ?_ | ((first | refine vr_ ?_ | (refine cs_ ?_ ?_ <;> intro hc) | refine cj_ ?_ | fail) <;> (try refine ev_ ?_)) | with_reducible exact ti_)
 refine qu 3 fY (bY _) (bYi _ _) ?_
 (refine ev_ ?_; (try with_reducible exact ti_))
 by_cases hg : g = 0
 case neg =>
  have hd : decide (g = 0) = false := decide_eq_false hg
  repeat' (first | refine vs_ ?_ | ((first | refine vr_ ?_ | fail) <;> (try simp only [hd, decide_false, go_sem, ↓reduceIte])) | ((first | (refine cs_ ?_ ?_ <;> intro hc) | refine cj_ ?_ | fail | refine qa qed fun _ => ?_) <;> (try refine ev_ ?_)) | with_reducible exact ti_)
  all_goals try (exfalso; revert hc; simp; done)
 by_cases hh : h = 0
 case neg =>
  subst hg
  have hd : decide (h = 0) = false := decide_eq_false hh
  repeat' (first | refine vs_ ?_ | ((first | refine vr_ ?_ | fail) <;> (try simp only [hd, decide_false, go_sem, ↓reduceIte])) | ((first | (refine cs_ ?_ ?_ <;> intro hc) | refine cj_ ?_ | fail | refine qa qed fun _ => ?_) <;> (try refine ev_ ?_)) | with_reducible exact ti_)
  all_goals try (exfalso; revert hc; simp; done)
 subst hg
 subst hh
 obtain ⟨u1, u2, u3⟩ := qbg o1 (t := a) (by rw [hq1])
 obtain ⟨w1, w2, w3⟩ := qbg o1' (t := a) (by rw [hq2])
 rw [hq1] at u3
 rw [hq2] at w3
 have u3 : x = putY r a := u3
 have w3 : y = putY r' a := w3
 have hxl : qc x = true := by rw [u3]; exact u2
 have hyl : qc y = true := by rw [w3]; exact w2
 have zx := (ql _).1 hxl
 have zy := (ql _).1 hyl
 have A1 := qkg (p := x) (t := y) (by omega) (by omega) (by omega)
 have A2 := qkg (p := y) (t := x) (by omega) (by omega) (by omega)
 rw [qn1 o1 hq1 hyl ab (by rw [w3, qdg r' a (qv ha)])] at A1
 rw [qn1 o1' hq2 hxl ab' (by rw [u3, qdg r a (qv ha)])] at A2
 by_cases hxy : x = y
 ·subst hxy
  repeat' (first | refine vs_ ?_ | ((first | refine vr_ ?_ | refine qa A1 fun _ => ?_ | refine qa qed fun _ => ?_ | (refine cs_ ?_ ?_ <;> intro hc) | refine cj_ ?_ | fail) <;> (try refine ev_ ?_)) | with_reducible exact ti_)
 ·repeat' (first | refine vs_ ?_ | ((first | refine vr_ ?_ | refine qa A1 fun _ => ?_ | refine qa A2 fun _ => ?_ | refine qa qed fun _ => ?_ | (refine cs_ ?_ ?_ <;> intro hc) | refine cj_ ?_ | fail) <;> (try refine ev_ ?_)) | with_reducible exact ti_)
end Go.Proofs.YtlahgbhhejkgbaaGreat
