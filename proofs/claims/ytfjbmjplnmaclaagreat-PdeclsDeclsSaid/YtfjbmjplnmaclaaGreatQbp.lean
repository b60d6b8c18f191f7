/- A text of this proof. -/
import Derived.Test.YtfjbmjplnmaclaaGreatQbn
import Derived.Test.YtfjbmjplnmaclaaGreatQbo

/- declarations: what is read is a declaration -/
namespace Go.Proofs.YtfjbmjplnmaclaaGreat
open Go Go.RowKit Go.V
set_option linter.unusedVariables false
set_option linter.unusedSimpArgs false

theorem qwz {c : K} (hc : okK c) {n : N} (h : (qgh c).2 = some n) : tyW n = true := qwj (q6t (rest c + 2)) hc n h
theorem q66 {c : K} (hc : okK c) {n : N} (h : (qh4 c).2 = some n) : (biW n || sgW n) = true := q69 (qbmh (rest c + 2)) hc n h
theorem q9l {c : K} (hc : okK c) {l : List N} (h : (qd3 c).2 = some l) : l.all prW = true := q2a (qic _) (q6t (rest c + 2)) hc l h
theorem qnn {one : K → R3} {more : MF} {P : N → Bool} (ho : Goes one) (hm : MonM more) (hP : ∀ c, okK c → (one c).2.2 = true → P (one c).2.1 = true) : ∀ (f : Nat) (b : Bool) (c : K) (acc : List N), okK c → (rowF one more f b c acc).2.2.2 = true → ∃ l, (rowF one more f b c acc).2.2.1 = acc ++ l ∧ l.all P = true
 | 0, _, _, _ => fun _ h => by cases h
 | f + 1, b, c, acc => fun hc h => by
   rw [rowF] at h ⊢
   have hc1 := okM hc (hm b c)
   split at h
   ·rename_i h1
    rw [if_pos h1]
    split at h
    ·rename_i h2
     rw [if_pos h2]
     obtain ⟨l, e, hl⟩ := qnn ho hm hP f _ _ _ (okM hc1 (ho.m _)) h
     refine ⟨(one (more b c).2.1).2.1 :: l, ?_, ?_⟩
     ·rw [e, List.append_assoc]; rfl
     ·rw [List.all_cons, hP _ hc1 h2, hl]; rfl
    ·cases h
   ·rename_i h1
    rw [if_neg h1]
    exact ⟨[], by rw [List.append_nil], rfl⟩
theorem q4n {one : K → R3} {x : List UInt8} {P : N → Bool} (ho : Goes one) (hP : ∀ c, okK c → (one c).2.2 = true → P (one c).2.1 = true) {f : Nat} {c : K} {acc : List N} (hc : okK c) (h : (rowF one (qb5 x) (f + 1) false c acc).2.2.2 = true) : ∃ y l, (rowF one (qb5 x) (f + 1) false c acc).2.2.1 = acc ++ y :: l ∧ P y = true ∧ l.all P = true := by
 rw [rowF] at h ⊢
 rw [if_pos (show (qb5 x false c).2.2 = true from rfl)] at h ⊢
 split at h
 ·rename_i h2
  rw [if_pos h2]
  have hc1 := okM hc (monF x false c)
  obtain ⟨l, e, hl⟩ := qnn ho (monF x) hP f _ _ _ (okM hc1 (ho.m _)) h
  exact ⟨_, l, by rw [e, List.append_assoc]; rfl, hP _ hc1 h2, hl⟩
 ·cases h
theorem qcjf {c : K} (hc : okK c) (h : (conK c).2.2 = true) : cnW (conK c).2.1 = true := by
 unfold conK at h ⊢
 split at h
 ·rename_i h1
  rw [if_pos h1]
  obtain ⟨l, e, hl⟩ := qnn (P := tyW) goes_atom (monA begT) (fun c hc h => by
   obtain ⟨n, hn⟩ := Option.isSome_iff_exists.1 (show (qgh c).2.isSome = true from h)
   have := qwz hc hn
   simp only [qde, ofO, hn, Option.getD_some]; exact this) _ false _ [] (okM hc (qbf c 2)) h
  rw [List.nil_append] at e
  have ht : conW (qev c 2).text = true := by rw [(qlk h1).2]; exact (qf6 hc).2.1 (qhm h1).2
  have e' : (rowS qde (qfw begT) false (qn c 2).1 []).2.2.1 = l := e
  simp only [conN, cnW, qij, N.kind, N.num, N.text, N.kids, decide_true, ht, Bool.and_self, Bool.true_and]
  rw [e']; exact hl
 ·cases h
theorem q6q {c : K} (hc : okK c) (hk : (qq c).kind = 1) {n : N} (h : (qgh c).2 = some n) : vaW n = true := by
 have h1 := qwz hc h
 unfold qgh at h
 rw [qbz, if_pos hk] at h
 simp only [Option.some.injEq] at h
 rw [vaW, h1, ← h]; rfl
theorem qw5 : ∀ (f : Nat) (b : Bool) (c : K) (acc : List N), okK c → (rowF qde (qfw qd8) f b c acc).2.2.2 = true → ∃ l, (rowF qde (qfw qd8) f b c acc).2.2.1 = acc ++ l ∧ l.all vaW = true
 | 0, _, _, _ => fun _ h => by cases h
 | f + 1, b, c, acc => fun hc h => by
   rw [rowF] at h ⊢
   cases ha : qd8 c with
   | false =>
     rw [if_neg (show ¬ (qfw qd8 b c).2.2 = true by show ¬ qd8 c = true; rw [ha]; decide)]
     exact ⟨[], by rw [List.append_nil], rfl⟩
   | true =>
     rw [if_pos (show (qfw qd8 b c).2.2 = true from ha), if_pos (show (qde (qfw qd8 b c).2.1).2.2 = true from qqa ha)] at h ⊢
     obtain ⟨l, e, hl⟩ := qw5 f b (qde c).1 (acc ++ [(qde c).2.1]) (okM hc (goes_atom.m c)) h
     have hk : (qq c).kind = 1 := by simpa [qd8] using ha
     obtain ⟨n, hn⟩ := Option.isSome_iff_exists.1 (show (qgh c).2.isSome = true from qqa ha)
     refine ⟨(qde c).2.1 :: l, ?_, ?_⟩
     ·show (rowF qde (qfw qd8) f b (qde c).1 (acc ++ [(qde c).2.1])).2.2.1 = _
      rw [e, List.append_assoc]; rfl
     ·rw [List.all_cons, hl, Bool.and_true]
      simp only [qde, ofO, hn, Option.getD_some]
      exact q6q hc hk hn
theorem qbam {k p m : Int} {t : List UInt8} {v l : List N} {y : N} (h31 : k ≠ 31) (h32 : k ≠ 32) (hm : m = v.length) (ht : conW t = true) : deW (.mk k p m t (v ++ y :: l)) = (if k = 33 then v.all vaW && cnW y && l.all cnW else if k = 35 then v.all prW && vaW y && l.all sgW else if k = 36 then v.all prW && tyW y && l.all biW else false) := by
 subst hm
 have t1 : (v ++ y :: l).take v.length = v := List.take_left
 have t2 : (v ++ y :: l).getD v.length N0 = y := by rw [List.getD_eq_getElem?_getD, List.getElem?_append_right (Nat.le_refl _)]; simp
 have t3 : (v ++ y :: l).drop (v.length + 1) = l := by rw [← List.drop_drop, List.drop_left]; rfl
 have e1 : ((v.length : Int)).toNat = v.length := by omega
 have e2 : ((v.length : Int) + 1).toNat = v.length + 1 := by omega
 have e3 : ¬ ((v.length : Int) < 0) := by omega
 have e4 : ¬ ((((v ++ y :: l).length : Nat) : Int) ≤ (v.length : Int)) := by simp only [List.length_append, List.length_cons]; omega
 unfold deW
 rw [if_neg (show ¬ (N.mk k p v.length t (v ++ y :: l)).kind = 31 from h31), if_neg (show ¬ (N.mk k p v.length t (v ++ y :: l)).kind = 32 from h32)]
 show (conW t && !decide ((v.length : Int) < 0) && !decide ((((v ++ y :: l).length : Nat) : Int) ≤ (v.length : Int)) && (if k = 33 then ((v ++ y :: l).take ((v.length : Int)).toNat).all vaW && cnW ((v ++ y :: l).getD ((v.length : Int)).toNat N0) && ((v ++ y :: l).drop ((v.length : Int) + 1).toNat).all cnW
  else if k = 35 then ((v ++ y :: l).take ((v.length : Int)).toNat).all prW && vaW ((v ++ y :: l).getD ((v.length : Int)).toNat N0) && ((v ++ y :: l).drop ((v.length : Int) + 1).toNat).all sgW
  else if k = 36 then ((v ++ y :: l).take ((v.length : Int)).toNat).all prW && tyW ((v ++ y :: l).getD ((v.length : Int)).toNat N0) && ((v ++ y :: l).drop ((v.length : Int) + 1).toNat).all biW else false)) = _
 rw [e1, e2, t1, t2, t3, ht, decide_eq_false e3, decide_eq_false e4]
 simp only [Bool.not_false, Bool.and_true, Bool.true_and]
theorem qbjd (p : Int) {t : T} {v l : List N} {y : N} (ht : conW t.text = true) (hv : v.all vaW = true) (hy : cnW y = true) (hl : l.all cnW = true) : deW (qrv p t v (v ++ y :: l)) = true := by
 unfold qrv
 rw [qbam (by decide) (by decide) rfl ht, if_pos rfl, hv, hy, hl]; rfl
theorem qb2g (p : Int) {c : K} (hc : okK c) (h : (qmw p c).2.2 = true) : deW (qmw p c).2.1 = true ∧ (qmw p c).2.1.kind ≠ 37 := by
 unfold qmw at h ⊢
 split at h
 ·rename_i h1
  rw [if_pos h1]
  have ht : conW (qev c 2).text = true := by rw [(qlk h1).2]; exact (qf6 hc).2.1 (qhm h1).2
  have hc1 := okM hc (qbf c 2)
  have hv : ∃ l, (rowS qde (qfw qd8) false (qn c 2).1 []).2.2.1 = l ∧ l.all vaW = true := by
   obtain ⟨l, e, hl⟩ := qw5 _ false _ [] hc1 (qwx _ false _ [] (Nat.lt_succ_self _))
   exact ⟨l, e, hl⟩
  obtain ⟨v, hv1, hv2⟩ := hv
  have hc2 := okM hc1 (qgz goes_atom (monA qd8) false (qn c 2).1 [])
  unfold q4a at h ⊢
  rw [hv1] at h ⊢
  generalize (rowS qde (qfw qd8) false (qn c 2).1 []).2.1 = d at *
  unfold q1i at h ⊢
  split at h
  ·rename_i h2
   rw [if_pos h2]
   obtain ⟨y, l, e, hy, hl⟩ := q4n (P := cnW) goes_con (fun c hc h => qcjf hc h) (okM hc2 (qd d [61])) h
   have e : (rowS conK (qb5 [124]) false (qi d [61]).1 v).2.2.1 = v ++ y :: l := e
   refine ⟨?_, by simp only [qrv, N.kind]; decide⟩
   rw [e]
   exact qbjd p ht hv2 hy hl
  ·cases h
 ·cases h
theorem q6o {n : N} (h : biW n = true) : n.kind = 31 := by
 rw [qbav] at h
 simp only [Bool.and_eq_true, decide_eq_true_eq] at h
 exact h.1.1.1.1
theorem q6p {n : N} (h : sgW n = true) : n.kind = 32 := by
 unfold sgW at h
 simp only [Bool.and_eq_true, decide_eq_true_eq] at h
 exact h.1.1.1.1
theorem q25 {kd : Int} {c : K} (hc : okK c) (h : (qbn kd c).2.2 = true) : (biW (qbn kd c).2.1 || sgW (qbn kd c).2.1) = true ∧ (qbn kd c).2.1.kind = kd := by
 unfold qbn at h ⊢
 split at h
 ·cases h
 ·rename_i h1
  rw [if_neg h1]
  obtain ⟨n, hn⟩ := Option.isSome_iff_exists.1 (show (qh4 c).2.isSome = true from h)
  have h2 := q66 hc hn
  rw [hn] at h1
  simp only [ofO, hn, Option.getD_some]
  refine ⟨h2, ?_⟩
  by_cases hq : n.kind = kd
  ·exact hq
  ·exact absurd ⟨rfl, hq⟩ h1
theorem qcke {c : K} (hc : okK c) (h : (qbn 32 c).2.2 = true) : sgW (qbn 32 c).2.1 = true := by
 obtain ⟨h1, h2⟩ := q25 hc h
 rcases Bool.or_eq_true_iff.1 h1 with q | q
 ·have := q6o q; omega
 ·exact q
theorem qci0 {c : K} (hc : okK c) (h : (qbn 31 c).2.2 = true) : biW (qbn 31 c).2.1 = true := by
 obtain ⟨h1, h2⟩ := q25 hc h
 rcases Bool.or_eq_true_iff.1 h1 with q | q
 ·exact q
 ·have := q6p q; omega
theorem q2s {kd : Int} {P : N → Bool} (hP : ∀ c, okK c → (qbn kd c).2.2 = true → P (qbn kd c).2.1 = true) {c : K} (hc : okK c) (out : List N) (h : (qds kd c out).2.2 = true) : ∃ l, (qds kd c out).2.1 = out ++ l ∧ l.all P = true := by
 unfold qds at h ⊢
 split at h
 ·rename_i h1
  rw [if_pos h1]
  split at h
  ·rename_i h2
   rw [if_pos h2]
   have hc2 := okM hc ((qd c [119, 104, 101, 114, 101]).trans (qd _ [123]))
   unfold qn7 at h ⊢
   split at h
   ·rename_i h3
    rw [if_pos h3]
    exact qnn (qeb kd) monB hP _ false _ out hc2 h3
   ·rename_i h3; exact absurd h h3
  ·cases h
 ·cases h
theorem q7v {k : Int} (hk : k = 35 ∨ k = 36) (p : Int) {c : K} (hc : okK c) (h : (ql2 k p c).2.2 = true) : deW (ql2 k p c).2.1 = true ∧ (ql2 k p c).2.1.kind ≠ 37 := by
 unfold ql2 at h ⊢
 split at h
 ·rename_i h1
  rw [if_pos h1]
  obtain ⟨v, hv⟩ := Option.isSome_iff_exists.1 h1
  have hpv := q9l hc hv
  have hc1 := okM hc (qgp c)
  rw [hv, Option.getD_some] at h ⊢
  unfold q55 at h ⊢
  split at h
  ·rename_i h2
   rw [if_pos h2]
   have ht : conW (qev (qd3 c).1 2).text = true := by rw [(qlk h2).2]; exact (qf6 hc1).2.1 (qhm h2).2
   have hc2 := okM hc1 (qbf (qd3 c).1 2)
   generalize (qn (qd3 c).1 2).1 = d at *
   unfold q0e at h ⊢
   split at h
   ·cases h
   ·rename_i h3
    rw [if_neg h3]
    unfold q4o at h ⊢
    split at h
    ·rename_i h4
     rw [if_pos h4]
     obtain ⟨a, ha⟩ := Option.isSome_iff_exists.1 h4
     rw [ha, Option.getD_some] at h ⊢
     have hc3 := okM hc2 (qhz d)
     refine ⟨?_, ?_⟩
     ·rcases hk with rfl | rfl
      ·rw [if_pos rfl] at h ⊢
       obtain ⟨l, e, hl⟩ := q2s (P := sgW) (fun c hc h => qcke hc h) hc3 (v ++ [a]) h
       have hk1 : (qq d).kind = 1 := by
        by_cases hq : (qq d).kind = 1
        ·exact hq
        ·exact absurd ⟨rfl, hq⟩ h3
       show deW (qk8 35 p (qev (qd3 c).1 2) v (qds 32 (qgh d).1 (v ++ [a])).2.1) = true
       rw [e, List.append_assoc]
       unfold qk8
       rw [List.cons_append, List.nil_append, qbam (by decide) (by decide) rfl ht, if_neg (by decide), if_pos rfl, hpv, q6q hc2 hk1 ha, hl]; rfl
      ·rw [if_neg (by decide)] at h ⊢
       obtain ⟨l, e, hl⟩ := q2s (P := biW) (fun c hc h => qci0 hc h) hc3 (v ++ [a]) h
       show deW (qk8 36 p (qev (qd3 c).1 2) v (qds 31 (qgh d).1 (v ++ [a])).2.1) = true
       rw [e, List.append_assoc]
       unfold qk8
       rw [List.cons_append, List.nil_append, qbam (by decide) (by decide) rfl ht, if_neg (by decide), if_neg (by decide), if_pos rfl, hpv, qwz hc2 ha, hl]; rfl
     ·show k ≠ 37
      omega
    ·cases h
  ·cases h
 ·cases h
theorem q84 {c : K} (hc : okK c) (h : (qdm c).2.2 = true) : deW (qdm c).2.1 = true ∧ (qdm c).2.1.kind ≠ 37 := by
 unfold qdm at h ⊢
 split at h
 ·rename_i h1
  rw [if_pos h1]
  exact qb2g _ (okM hc (qk _ _)) h
 ·rename_i h1
  rw [if_neg h1]
  split at h
  ·rename_i h1
   rw [if_pos h1]
   exact q7v (.inl rfl) _ (okM hc (qk _ _)) h
  ·rename_i h1
   rw [if_neg h1]
   split at h
   ·rename_i h1
    rw [if_pos h1]
    exact q7v (.inr rfl) _ (okM hc (qk _ _)) h
   ·rename_i h1
    rw [if_neg h1]
    obtain ⟨n, hn⟩ := Option.isSome_iff_exists.1 (show (qh4 c).2.isSome = true from h)
    have h2 := q66 hc hn
    simp only [ofO, hn, Option.getD_some]
    rcases Bool.or_eq_true_iff.1 h2 with q | q
    ·have hk := q6o q
     exact ⟨by rw [deW, if_pos hk]; exact q, by omega⟩
    ·have hk := q6p q
     exact ⟨by rw [deW, if_neg (by omega), if_pos hk]; exact q, by omega⟩
theorem qbme {n : N} (h1 : sz n ≤ 1000000) (h2 : ¬ depR n > 100) : lowW n = true := by rw [qbhp h1, decide_eq_true_eq]; omega
theorem q2i (s : List UInt8) : rest (newK (lexV s).1) ≤ s.length + 1 := by
 have h3 := qll (lexV s).1
 have h5 := (qlx s).2
 have h4 : rest (newK (lexV s).1) = (qhh (lexV s).1).length := rfl
 omega
theorem q1v {s : List UInt8} (hs : s.length ≤ 3000) (h : (qml s).2.2 = 0) : qs6 (qml s).1 = true ∧ (qml s).1.kind ≠ 37 := by
 unfold qml qym at h ⊢
 split at h
 ·rename_i he
  rw [if_pos he]
  have hn : NoEnd (newK (lexV s).1) := fun t ht => qh0 ht
  have hok := q9s s
  have hsz := qbce (newK (lexV s).1)
  have hr := q2i s
  generalize newK (lexV s).1 = c at *
  unfold qkc at h ⊢
  split at h
  ·rename_i hd
   rw [if_pos hd]
   split at h
   ·exact absurd h (by simp)
   ·rename_i hdp
    rw [if_neg hdp]
    have ho : (qdm c).2.2 = true := by
     cases hq : (qdm c).2.2 with
     | true => rfl
     | false => exact absurd (q0u hd) ((qwp hn).2.2 hq)
    obtain ⟨h1, h2⟩ := q84 hok ho
    have hl := qbme (n := (qdm c).2.1) (by unfold decK at hsz; simp only [Option.getD_some] at hsz; omega) hdp
    refine ⟨?_, h2⟩
    show qs6 (qdm c).2.1 = true
    rw [qs6, if_neg h2, hl, h1]; rfl
  ·rename_i hd; exact absurd h hd
 ·rename_i he; exact absurd h he
theorem q22 {s : List UInt8} (hs : s.length ≤ 3000) (h : (qj2 s).2.2 = 0) : qs6 (qj2 s).1 = true ∧ (qj2 s).1.kind = 37 := by
 unfold qj2 qym at h ⊢
 split at h
 ·rename_i he
  rw [if_pos he]
  have hn : NoEnd (newK (lexV s).1) := fun t ht => qh0 ht
  have hok := q9s s
  have e0 : (newK (lexV s).1).err = 0 := rfl
  have hsz := q20 (newK (lexV s).1)
  have hr := q2i s
  generalize newK (lexV s).1 = c at *
  unfold qkc at h ⊢
  split at h
  ·rename_i hd
   rw [if_pos hd]
   split at h
   ·exact absurd h (by simp)
   ·rename_i hdp
    rw [if_neg hdp]
    have ho : (rowS qdm qh1 false c []).2.2.2 = true := by
     cases hq : (rowS qdm qh1 false c []).2.2.2 with
     | true => rfl
     | false => exact absurd (q0u hd) ((q3n hn e0).2.2 hq)
    obtain ⟨l, e, hl⟩ := qnn (P := deW) goes_decl monP (fun c hc h => (q84 hc h).1) _ false c [] hok ho
    rw [List.nil_append] at e
    have hlw := qbme (n := (qn1 c).2.getD N0) (by omega) hdp
    have e' : (rowS qdm qh1 false c []).2.2.1 = l := e
    refine ⟨?_, rfl⟩
    show qs6 ((qn1 c).2.getD N0) = true
    have hk : ((qn1 c).2.getD N0).kind = 37 := rfl
    rw [qs6, if_pos hk, hlw]
    unfold qn1
    simp only [Option.getD_some, qpm, qsh, N.text, N.num, N.kids, e', hl]
    rfl
  ·rename_i hd; exact absurd h hd
 ·rename_i he; exact absurd h he
end Go.Proofs.YtfjbmjplnmaclaaGreat
