/- A text of this proof. -/
import Derived.Test.YtfjbmjplnmaclaaGreatPbn
import Derived.Test.YtfjbmjplnmaclaaGreatPbo

/- declarations: what is read is a declaration -/
namespace Go.Proofs.YtfjbmjplnmaclaaGreat
open Go Go.RowKit Go.V
set_option linter.unusedVariables false
set_option linter.unusedSimpArgs false

theorem qvd {c : K} (hc : okK c) {n : N} (h : (qgh c).2 = some n) : tyW n = true := qwg (qba0 (rest c + 2)) hc n h
theorem qbbs {c : K} (hc : okK c) {n : N} (h : (qh3 c).2 = some n) : (biW n || sgW n) = true := qbaw (qbmb (rest c + 2)) hc n h
theorem qbb3 {c : K} (hc : okK c) {l : List N} (h : (qd4 c).2 = some l) : l.all prW = true := q2i (qia _) (qba0 (rest c + 2)) hc l h
theorem qnr {one : K → R3} {more : MF} {P : N → Bool} (ho : Goes one) (hm : MonM more) (hP : ∀ c, okK c → (one c).2.2 = true → P (one c).2.1 = true) : ∀ (f : Nat) (b : Bool) (c : K) (acc : List N), okK c → (rowF one more f b c acc).2.2.2 = true → ∃ l, (rowF one more f b c acc).2.2.1 = acc ++ l ∧ l.all P = true
 | 0, _, _, _ => fun _ h => by cases h
 | f + 1, b, c, acc => fun hc h => by
   rw [rowF] at h ⊢
   have hc1 := okM hc (hm b c)
   split at h
   ·rename_i h1
    rw [if_pos h1]
    split at h
    ·rename_i h2
     rw [if_pos h2]
     obtain ⟨l, e, hl⟩ := qnr ho hm hP f _ _ _ (okM hc1 (ho.m _)) h
     refine ⟨(one (more b c).2.1).2.1 :: l, ?_, ?_⟩
     ·rw [e, List.append_assoc]; rfl
     ·rw [List.all_cons, hP _ hc1 h2, hl]; rfl
    ·cases h
   ·rename_i h1
    rw [if_neg h1]
    exact ⟨[], by rw [List.append_nil], rfl⟩
theorem q3o {one : K → R3} {x : List UInt8} {P : N → Bool} (ho : Goes one) (hP : ∀ c, okK c → (one c).2.2 = true → P (one c).2.1 = true) {f : Nat} {c : K} {acc : List N} (hc : okK c) (h : (rowF one (qb5 x) (f + 1) false c acc).2.2.2 = true) : ∃ y l, (rowF one (qb5 x) (f + 1) false c acc).2.2.1 = acc ++ y :: l ∧ P y = true ∧ l.all P = true := by
 rw [rowF] at h ⊢
 rw [if_pos (show (qb5 x false c).2.2 = true from rfl)] at h ⊢
 split at h
 ·rename_i h2
  rw [if_pos h2]
  have hc1 := okM hc (monF x false c)
  obtain ⟨l, e, hl⟩ := qnr ho (monF x) hP f _ _ _ (okM hc1 (ho.m _)) h
  exact ⟨_, l, by rw [e, List.append_assoc]; rfl, hP _ hc1 h2, hl⟩
 ·cases h
theorem qchh {c : K} (hc : okK c) (h : (conK c).2.2 = true) : cnW (conK c).2.1 = true := by
 unfold conK at h ⊢
 split at h
 ·rename_i h1
  rw [if_pos h1]
  obtain ⟨l, e, hl⟩ := qnr (P := tyW) goes_atom (monA begT) (fun c hc h => by
   obtain ⟨n, hn⟩ := Option.isSome_iff_exists.1 (show (qgh c).2.isSome = true from h)
   have := qvd hc hn
   simp only [qde, ofO, hn, Option.getD_some]; exact this) _ false _ [] (okM hc (qbf c 2)) h
  rw [List.nil_append] at e
  have ht : conW (qev c 2).text = true := by rw [(qk8 h1).2]; exact (qf8 hc).2.1 (qhr h1).2
  have e' : (rowS qde (qfr begT) false (qn c 2).1 []).2.2.1 = l := e
  simp only [conN, cnW, qin, N.kind, N.num, N.text, N.kids, decide_true, ht, Bool.and_self, Bool.true_and]
  rw [e']; exact hl
 ·cases h
theorem q8d {c : K} (hc : okK c) (hk : (qq c).kind = 1) {n : N} (h : (qgh c).2 = some n) : vaW n = true := by
 have h1 := qvd hc h
 unfold qgh at h
 rw [qbz, if_pos hk] at h
 simp only [Option.some.injEq] at h
 rw [vaW, h1, ← h]; rfl
theorem qzp : ∀ (f : Nat) (b : Bool) (c : K) (acc : List N), okK c → (rowF qde (qfr qd7) f b c acc).2.2.2 = true → ∃ l, (rowF qde (qfr qd7) f b c acc).2.2.1 = acc ++ l ∧ l.all vaW = true
 | 0, _, _, _ => fun _ h => by cases h
 | f + 1, b, c, acc => fun hc h => by
   rw [rowF] at h ⊢
   cases ha : qd7 c with
   | false =>
     rw [if_neg (show ¬ (qfr qd7 b c).2.2 = true by show ¬ qd7 c = true; rw [ha]; decide)]
     exact ⟨[], by rw [List.append_nil], rfl⟩
   | true =>
     rw [if_pos (show (qfr qd7 b c).2.2 = true from ha), if_pos (show (qde (qfr qd7 b c).2.1).2.2 = true from qp0 ha)] at h ⊢
     obtain ⟨l, e, hl⟩ := qzp f b (qde c).1 (acc ++ [(qde c).2.1]) (okM hc (goes_atom.m c)) h
     have hk : (qq c).kind = 1 := by simpa [qd7] using ha
     obtain ⟨n, hn⟩ := Option.isSome_iff_exists.1 (show (qgh c).2.isSome = true from qp0 ha)
     refine ⟨(qde c).2.1 :: l, ?_, ?_⟩
     ·show (rowF qde (qfr qd7) f b (qde c).1 (acc ++ [(qde c).2.1])).2.2.1 = _
      rw [e, List.append_assoc]; rfl
     ·rw [List.all_cons, hl, Bool.and_true]
      simp only [qde, ofO, hn, Option.getD_some]
      exact q8d hc hk hn
theorem q9w {k p m : Int} {t : List UInt8} {v l : List N} {y : N} (h31 : k ≠ 31) (h32 : k ≠ 32) (hm : m = v.length) (ht : conW t = true) : deW (.mk k p m t (v ++ y :: l)) = (if k = 33 then v.all vaW && cnW y && l.all cnW else if k = 35 then v.all prW && vaW y && l.all sgW else if k = 36 then v.all prW && tyW y && l.all biW else false) := by
 subst hm
 have t1 : (v ++ y :: l).take v.length = v := List.take_left
 have t2 : (v ++ y :: l).getD v.length N0 = y := by rw [List.getD_eq_getElem?_getD, List.getElem?_append_right (Nat.le_refl _)]; simp
 have t3 : (v ++ y :: l).drop (v.length + 1) = l := by rw [← List.drop_drop, List.drop_left]; rfl
 have e1 : ((v.length : Int)).toNat = v.length := by omega
 have e2 : ((v.length : Int) + 1).toNat = v.length + 1 := by omega
 have e3 : ¬ ((v.length : Int) < 0) := by omega
 have e4 : ¬ ((((v ++ y :: l).length : Nat) : Int) ≤ (v.length : Int)) := by simp only [List.length_append, List.length_cons]; omega
 unfold deW
 rw [if_neg (show ¬ (N.mk k p v.length t (v ++ y :: l)).kind = 31 from h31), if_neg (show ¬ (N.mk k p v.length t (v ++ y :: l)).kind = 32 from h32)]
 show (conW t && !decide ((v.length : Int) < 0) && !decide ((((v ++ y :: l).length : Nat) : Int) ≤ (v.length : Int)) && (if k = 33 then ((v ++ y :: l).take ((v.length : Int)).toNat).all vaW && cnW ((v ++ y :: l).getD ((v.length : Int)).toNat N0) && ((v ++ y :: l).drop ((v.length : Int) + 1).toNat).all cnW
  else if k = 35 then ((v ++ y :: l).take ((v.length : Int)).toNat).all prW && vaW ((v ++ y :: l).getD ((v.length : Int)).toNat N0) && ((v ++ y :: l).drop ((v.length : Int) + 1).toNat).all sgW
  else if k = 36 then ((v ++ y :: l).take ((v.length : Int)).toNat).all prW && tyW ((v ++ y :: l).getD ((v.length : Int)).toNat N0) && ((v ++ y :: l).drop ((v.length : Int) + 1).toNat).all biW else false)) = _
 rw [e1, e2, t1, t2, t3, ht, decide_eq_false e3, decide_eq_false e4]
 simp only [Bool.not_false, Bool.and_true, Bool.true_and]
theorem qbg7 (p : Int) {t : T} {v l : List N} {y : N} (ht : conW t.text = true) (hv : v.all vaW = true) (hy : cnW y = true) (hl : l.all cnW = true) : deW (qrn p t v (v ++ y :: l)) = true := by
 unfold qrn
 rw [q9w (by decide) (by decide) rfl ht, if_pos rfl, hv, hy, hl]; rfl
theorem qbxu (p : Int) {c : K} (hc : okK c) (h : (qmk p c).2.2 = true) : deW (qmk p c).2.1 = true ∧ (qmk p c).2.1.kind ≠ 37 := by
 unfold qmk at h ⊢
 split at h
 ·rename_i h1
  rw [if_pos h1]
  have ht : conW (qev c 2).text = true := by rw [(qk8 h1).2]; exact (qf8 hc).2.1 (qhr h1).2
  have hc1 := okM hc (qbf c 2)
  have hv : ∃ l, (rowS qde (qfr qd7) false (qn c 2).1 []).2.2.1 = l ∧ l.all vaW = true := by
   obtain ⟨l, e, hl⟩ := qzp _ false _ [] hc1 (qvi _ false _ [] (Nat.lt_succ_self _))
   exact ⟨l, e, hl⟩
  obtain ⟨v, hv1, hv2⟩ := hv
  have hc2 := okM hc1 (qgy goes_atom (monA qd7) false (qn c 2).1 [])
  unfold q45 at h ⊢
  rw [hv1] at h ⊢
  generalize (rowS qde (qfr qd7) false (qn c 2).1 []).2.1 = d at *
  unfold qzy at h ⊢
  split at h
  ·rename_i h2
   rw [if_pos h2]
   obtain ⟨y, l, e, hy, hl⟩ := q3o (P := cnW) goes_con (fun c hc h => qchh hc h) (okM hc2 (qd d [61])) h
   have e : (rowS conK (qb5 [124]) false (qi d [61]).1 v).2.2.1 = v ++ y :: l := e
   refine ⟨?_, by simp only [qrn, N.kind]; decide⟩
   rw [e]
   exact qbg7 p ht hv2 hy hl
  ·cases h
 ·cases h
theorem qbbp {n : N} (h : biW n = true) : n.kind = 31 := by
 rw [q82] at h
 simp only [Bool.and_eq_true, decide_eq_true_eq] at h
 exact h.1.1.1.1
theorem q77 {n : N} (h : sgW n = true) : n.kind = 32 := by
 unfold sgW at h
 simp only [Bool.and_eq_true, decide_eq_true_eq] at h
 exact h.1.1.1.1
theorem q2d {kd : Int} {c : K} (hc : okK c) (h : (qbn kd c).2.2 = true) : (biW (qbn kd c).2.1 || sgW (qbn kd c).2.1) = true ∧ (qbn kd c).2.1.kind = kd := by
 unfold qbn at h ⊢
 split at h
 ·cases h
 ·rename_i h1
  rw [if_neg h1]
  obtain ⟨n, hn⟩ := Option.isSome_iff_exists.1 (show (qh3 c).2.isSome = true from h)
  have h2 := qbbs hc hn
  rw [hn] at h1
  simp only [ofO, hn, Option.getD_some]
  refine ⟨h2, ?_⟩
  by_cases hq : n.kind = kd
  ·exact hq
  ·exact absurd ⟨rfl, hq⟩ h1
theorem qchq {c : K} (hc : okK c) (h : (qbn 32 c).2.2 = true) : sgW (qbn 32 c).2.1 = true := by
 obtain ⟨h1, h2⟩ := q2d hc h
 rcases Bool.or_eq_true_iff.1 h1 with q | q
 ·have := qbbp q; omega
 ·exact q
theorem qcem {c : K} (hc : okK c) (h : (qbn 31 c).2.2 = true) : biW (qbn 31 c).2.1 = true := by
 obtain ⟨h1, h2⟩ := q2d hc h
 rcases Bool.or_eq_true_iff.1 h1 with q | q
 ·exact q
 ·have := q77 q; omega
theorem q2p {kd : Int} {P : N → Bool} (hP : ∀ c, okK c → (qbn kd c).2.2 = true → P (qbn kd c).2.1 = true) {c : K} (hc : okK c) (out : List N) (h : (qdq kd c out).2.2 = true) : ∃ l, (qdq kd c out).2.1 = out ++ l ∧ l.all P = true := by
 unfold qdq at h ⊢
 split at h
 ·rename_i h1
  rw [if_pos h1]
  split at h
  ·rename_i h2
   rw [if_pos h2]
   have hc2 := okM hc ((qd c [119, 104, 101, 114, 101]).trans (qd _ [123]))
   unfold qob at h ⊢
   split at h
   ·rename_i h3
    rw [if_pos h3]
    exact qnr (qeg kd) monB hP _ false _ out hc2 h3
   ·rename_i h3; exact absurd h h3
  ·cases h
 ·cases h
theorem q91 {k : Int} (hk : k = 35 ∨ k = 36) (p : Int) {c : K} (hc : okK c) (h : (ql1 k p c).2.2 = true) : deW (ql1 k p c).2.1 = true ∧ (ql1 k p c).2.1.kind ≠ 37 := by
 unfold ql1 at h ⊢
 split at h
 ·rename_i h1
  rw [if_pos h1]
  obtain ⟨v, hv⟩ := Option.isSome_iff_exists.1 h1
  have hpv := qbb3 hc hv
  have hc1 := okM hc (qgp c)
  rw [hv, Option.getD_some] at h ⊢
  unfold q4m at h ⊢
  split at h
  ·rename_i h2
   rw [if_pos h2]
   have ht : conW (qev (qd4 c).1 2).text = true := by rw [(qk8 h2).2]; exact (qf8 hc1).2.1 (qhr h2).2
   have hc2 := okM hc1 (qbf (qd4 c).1 2)
   generalize (qn (qd4 c).1 2).1 = d at *
   unfold qz6 at h ⊢
   split at h
   ·cases h
   ·rename_i h3
    rw [if_neg h3]
    unfold q4h at h ⊢
    split at h
    ·rename_i h4
     rw [if_pos h4]
     obtain ⟨a, ha⟩ := Option.isSome_iff_exists.1 h4
     rw [ha, Option.getD_some] at h ⊢
     have hc3 := okM hc2 (qhw d)
     refine ⟨?_, ?_⟩
     ·rcases hk with rfl | rfl
      ·rw [if_pos rfl] at h ⊢
       obtain ⟨l, e, hl⟩ := q2p (P := sgW) (fun c hc h => qchq hc h) hc3 (v ++ [a]) h
       have hk1 : (qq d).kind = 1 := by
        by_cases hq : (qq d).kind = 1
        ·exact hq
        ·exact absurd ⟨rfl, hq⟩ h3
       show deW (qkn 35 p (qev (qd4 c).1 2) v (qdq 32 (qgh d).1 (v ++ [a])).2.1) = true
       rw [e, List.append_assoc]
       unfold qkn
       rw [List.cons_append, List.nil_append, q9w (by decide) (by decide) rfl ht, if_neg (by decide), if_pos rfl, hpv, q8d hc2 hk1 ha, hl]; rfl
      ·rw [if_neg (by decide)] at h ⊢
       obtain ⟨l, e, hl⟩ := q2p (P := biW) (fun c hc h => qcem hc h) hc3 (v ++ [a]) h
       show deW (qkn 36 p (qev (qd4 c).1 2) v (qdq 31 (qgh d).1 (v ++ [a])).2.1) = true
       rw [e, List.append_assoc]
       unfold qkn
       rw [List.cons_append, List.nil_append, q9w (by decide) (by decide) rfl ht, if_neg (by decide), if_neg (by decide), if_pos rfl, hpv, qvd hc2 ha, hl]; rfl
     ·show k ≠ 37
      omega
    ·cases h
  ·cases h
 ·cases h
theorem qbx1 {c : K} (hc : okK c) (h : (qdv c).2.2 = true) : deW (qdv c).2.1 = true ∧ (qdv c).2.1.kind ≠ 37 := by
 unfold qdv at h ⊢
 split at h
 ·rename_i h1
  rw [if_pos h1]
  exact qbxu _ (okM hc (qk _ _)) h
 ·rename_i h1
  rw [if_neg h1]
  split at h
  ·rename_i h1
   rw [if_pos h1]
   exact q91 (.inl rfl) _ (okM hc (qk _ _)) h
  ·rename_i h1
   rw [if_neg h1]
   split at h
   ·rename_i h1
    rw [if_pos h1]
    exact q91 (.inr rfl) _ (okM hc (qk _ _)) h
   ·rename_i h1
    rw [if_neg h1]
    obtain ⟨n, hn⟩ := Option.isSome_iff_exists.1 (show (qh3 c).2.isSome = true from h)
    have h2 := qbbs hc hn
    simp only [ofO, hn, Option.getD_some]
    rcases Bool.or_eq_true_iff.1 h2 with q | q
    ·have hk := qbbp q
     exact ⟨by rw [deW, if_pos hk]; exact q, by omega⟩
    ·have hk := q77 q
     exact ⟨by rw [deW, if_neg (by omega), if_pos hk]; exact q, by omega⟩
theorem qckn {n : N} (h1 : sz n ≤ 1000000) (h2 : ¬ depR n > 100) : lowW n = true := by rw [qbfs h1, decide_eq_true_eq]; omega
theorem qbd4 (s : List UInt8) : rest (newK (lexV s).1) ≤ s.length + 1 := by
 have h3 := qlj (lexV s).1
 have h5 := (qnt s).2
 have h4 : rest (newK (lexV s).1) = (qhg (lexV s).1).length := rfl
 omega
theorem q25 {s : List UInt8} (hs : s.length ≤ 3000) (h : (qjq s).2.2 = 0) : q0y (qjq s).1 = true ∧ (qjq s).1.kind = 37 := by
 unfold qjq q5p at h ⊢
 split at h
 ·rename_i he
  rw [if_pos he]
  have hn : NoEnd (newK (lexV s).1) := fun t ht => qmg ht
  have hok := qb9e s
  have e0 : (newK (lexV s).1).err = 0 := rfl
  have hsz := q2u (newK (lexV s).1)
  have hr := qbd4 s
  generalize newK (lexV s).1 = c at *
  unfold qko at h ⊢
  split at h
  ·rename_i hd
   rw [if_pos hd]
   split at h
   ·exact absurd h (by simp)
   ·rename_i hdp
    rw [if_neg hdp]
    have ho : (rowS qdv qh1 false c []).2.2.2 = true := by
     cases hq : (rowS qdv qh1 false c []).2.2.2 with
     | true => rfl
     | false => exact absurd (qbax hd) ((q1r hn e0).2.2 hq)
    obtain ⟨l, e, hl⟩ := qnr (P := deW) goes_decl monP (fun c hc h => (qbx1 hc h).1) _ false c [] hok ho
    rw [List.nil_append] at e
    have hlw := qckn (n := (qoj c).2.getD N0) (by omega) hdp
    have e' : (rowS qdv qh1 false c []).2.2.1 = l := e
    refine ⟨?_, rfl⟩
    show q0y ((qoj c).2.getD N0) = true
    have hk : ((qoj c).2.getD N0).kind = 37 := rfl
    rw [q0y, if_pos hk, hlw]
    unfold qoj
    simp only [Option.getD_some, qpg, qsb, N.text, N.num, N.kids, e', hl]
    rfl
  ·rename_i hd; exact absurd h hd
 ·rename_i he; exact absurd h he
end Go.Proofs.YtfjbmjplnmaclaaGreat
