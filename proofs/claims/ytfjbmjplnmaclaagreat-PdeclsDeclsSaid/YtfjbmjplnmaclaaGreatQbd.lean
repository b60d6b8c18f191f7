/- Texts of this proof, joined. -/
import Derived.Test.YtfjbmjplnmaclaaGreatQbb
import Derived.Test.YtfjbmjplnmaclaaGreatQbc

/- patterns: the size of what is read -/
namespace Go.Proofs.YtfjbmjplnmaclaaGreat
open Go Go.RowKit Go.V
set_option linter.unusedVariables false
set_option linter.unusedSimpArgs false

theorem qbvn {c : K} {n : N} (h : qkg c = some n) : sz n = 1 := by
 unfold qkg at h
 repeat' split at h
 all_goals first | (cases h; rw [qkl]; rfl) | cases h
section
variable {rec : K → K × Option N} (ih : ∀ c n, (rec c).2 = some n → sz n + rest (rec c).1 ≤ rest c)
include ih
theorem q8e {c : K} {n : N} (h : (qb0 rec c).2 = some n) : sz n + rest (qb0 rec c).1 ≤ rest c := by
 unfold qb0 at h ⊢
 split at h
 ·rename_i h1
  rw [if_pos h1]
  have := qbk (qnd h)
  have := qbvn h
  simp only; omega
 ·rename_i h1
  rw [if_neg h1]
  split at h
  ·rename_i h2
   rw [if_pos h2]
   split at h
   ·rename_i h3
    rw [if_pos h3]
    have hp := qbk (c := (qc c).1) (by rw [qe7 h3]; exact qdu h2)
    have h0 := (qm c).2.1
    split at h
    ·rename_i h4
     rw [if_pos h4]
     split at h
     ·rename_i h5
      rw [if_pos h5]
      have h6 := ih _ _ h
      have h7 := (qd (rec (qu (qc c).1)).1 [41]).2.1
      have h8 := (qbv (qi (rec (qu (qc c).1)).1 [41]).1).2.1
      simp only at h6 ⊢; omega
     ·cases h
    ·cases h
   ·cases h
  ·cases h
theorem q85 : ∀ (f : Nat) (c : K) (acc l : List N), (qif rec f c acc).2 = some l → szs l + rest (qif rec f c acc).1 ≤ szs acc + rest c
 | 0, c, acc, l => fun h => by cases h
 | f + 1, c, acc, l => fun h => by
   rw [qif] at h ⊢
   split at h
   ·rename_i h1
    rw [if_pos h1]
    split at h
    ·rename_i h2
     rw [if_pos h2]
     obtain ⟨n, hn⟩ := Option.isSome_iff_exists.1 h2
     have h3 := q85 f _ _ _ h
     have h4 := q8e ih hn
     rw [qhd, hn] at h3
     simp only [Option.getD_some, szs] at h3
     rw [hn]
     simp only [Option.getD_some]
     omega
    ·cases h
   ·rename_i h1
    rw [if_neg h1]
    cases h
    exact Nat.le_refl _
end
theorem qb0s : ∀ (f : Nat) (c : K) (n : N), (qcz f c).2 = some n → sz n + rest (qcz f c).1 ≤ rest c
 | 0, _, _ => fun h => by cases h
 | f + 1, c, n => fun h => by
   rw [qcz] at h ⊢
   have h0 := (qm c).2.1
   split at h
   ·rename_i h1
    rw [if_pos h1]
    split at h
    ·rename_i h2
     rw [if_pos h2]
     have hr := qbk (c := (qc c).1) (by omega)
     obtain ⟨l, hl, rfl⟩ := Option.map_eq_some_iff.1 h
     have h3 := q85 (qb0s f) _ _ _ _ hl
     have h4 := (qbv (qif (qcz f) (rest (qc c).1 + 1) (qu (qc c).1) []).1).2.1
     rw [qkl]
     simp only [N.kids, szs] at h3 ⊢
     omega
    ·rename_i h2
     rw [if_neg h2]
     have h3 := q8e (qb0s f) h
     have h4 := (qbv (qb0 (qcz f) (qc c).1).1).2.1
     simp only
     omega
   ·cases h
set_option maxRecDepth 4000

theorem q1b {f : Nat} (ih : ∀ c, c.good → rest c < f → qce Tryz.prog 116 (curE c) (curE (qiw f c).1) [.ptr 0 0] (resP (qiw f c).2)) (c : K) (hg : c.good) (hr : rest c < f + 1) :
 qce Tryz.prog 116 (curE c) (curE (qiw (f + 1) c).1) [.ptr 0 0] (resP (qiw (f + 1) c).2) := by
 have hm := qi3 f
 have g1 : (qc c).1.good := (qm c).1 hg
 have hr1 : rest (qc c).1 ≤ f := by have := (qm c).2.1; omega
 have ho := qbhk hm ih _ g1 hr1
 have g2 := (qq5 hm (qc c).1).1 g1
 refine qp c0bh 1 (by simp) (by simp) ?_
 rw [qiw]
 generalize qe1 (qiw f) (qc c).1 = r at *
 obtain ⟨d, n, ok⟩ := r
 simp only [toO] at ho g2 ⊢
 by_cases hk : (qc c).2 = true
 ·rw [if_pos hk]
  cases ok with
  | false =>
    repeat' (first | refine vs_ ?_ | ((first | refine vr_ ?_ | fail) <;> (try simp only [hk, go_sem, ↓reduceIte])) | ((first | (refine cs_ ?_ ?_ <;> intro hc) | refine cj_ ?_ | fail | refine qi1 ?_ | refine ql4 ho rfl ?_ | refine qgn g2.2.2 ?_) <;> (try refine ev_ ?_)) | with_reducible exact ti_)
    all_goals first | (rw [qdt]; done) | (rw [qdt]; rfl) | (rw [qdt]; exact ⟨rfl, rfl⟩)
  | true =>
    repeat' (first | refine vs_ ?_ | ((first | refine vr_ ?_ | fail) <;> (try simp only [hk, go_sem, ↓reduceIte])) | ((first | (refine cs_ ?_ ?_ <;> intro hc) | refine cj_ ?_ | fail | refine qi1 ?_ | refine ql4 ho rfl ?_ | refine qgn g2.2.2 ?_) <;> (try refine ev_ ?_)) | with_reducible exact ti_)
    all_goals first | rfl | exact ⟨rfl, rfl⟩
 ·rw [if_neg hk]
  repeat' (first | refine vs_ ?_ | ((first | refine vr_ ?_ | fail) <;> (try simp only [hk, go_sem, ↓reduceIte])) | ((first | (refine cs_ ?_ ?_ <;> intro hc) | refine cj_ ?_ | fail | refine qi1 ?_) <;> (try refine ev_ ?_)) | with_reducible exact ti_)
  all_goals first | (rw [qdt]; done) | (rw [qdt]; rfl) | (rw [qdt]; exact ⟨rfl, rfl⟩)
theorem qce3 (f : Nat) : ∀ c : K, c.good → rest c < f → qce Tryz.prog 116 (curE c) (curE (qiw f c).1) [.ptr 0 0] (resP (qiw f c).2) := by
 induction f with
 | zero => exact fun c _ h => absurd h (by omega)
 | succ f ih => exact q1b ih

/-! The size of what is read. -/
theorem qkm {k p m : Int} {t : List UInt8} {l : List N} : sz (.mk k p m t l) = szs l + 1 := by rw [qkl]; rfl
theorem qbd1 {c : K} {n : N} (h : qkj c = some n) : sz n = 1 := by
 unfold qkj qie at h
 repeat' split at h
 all_goals first | (cases h; rw [qkl]; rfl) | cases h
def SzO (c : K) (r : K × Option N) : Prop := ∀ n, r.2 = some n → sz n + 1 + 2 * rest r.1 ≤ 2 * rest c
def SzB (c : K) (r : R3) : Prop := r.2.2 = true → sz r.2.1 + 1 + 2 * rest r.1 ≤ 2 * rest c
theorem qgx {c : K} {r : K × Option N} (h : SzO c r) (hs : r.2.isSome = true) : sz (r.2.getD N0) + 1 + 2 * rest r.1 ≤ 2 * rest c := by
 obtain ⟨n, hn⟩ := Option.isSome_iff_exists.1 hs
 have := h n hn
 rw [hn]
 exact this
section
variable {rec : K → K × Option N} (ih : ∀ c, SzO c (rec c))
include ih
theorem q3f (c : K) : SzO c (qbl rec c) := by
 intro n h
 unfold qbl at h ⊢
 split at h
 ·rename_i h1
  rw [if_pos h1]
  have := qbk (qoi h1)
  have := qbd1 h
  simp only; omega
 ·rename_i h1
  rw [if_neg h1]
  split at h
  ·rename_i h2
   rw [if_pos h2]
   split at h
   ·rename_i h3
    rw [if_pos h3]
    have hp := qbk (c := (qc c).1) (by rw [qe7 h3]; exact qdu h2)
    have h0 := (qm c).2.1
    split at h
    ·rename_i h4
     rw [if_pos h4]
     split at h
     ·rename_i h5
      rw [if_pos h5]
      have h6 := ih _ _ h
      have h7 := (qd (rec (qu (qc c).1)).1 [41]).2.1
      have h8 := (qbv (qi (rec (qu (qc c).1)).1 [41]).1).2.1
      simp only at h6 ⊢; omega
     ·cases h
    ·cases h
   ·cases h
  ·cases h
theorem q18 : ∀ (f : Nat) (c d : K) (n : N), sz n + 1 + 2 * rest d ≤ 2 * rest c → SzB c (qgg rec f d n)
 | 0, c, d, n => fun h0 h => by cases h
 | f + 1, c, d, n => fun h0 h => by
   rw [qgg] at h ⊢
   split at h
   ·rename_i h1
    rw [if_pos h1]
    split at h
    ·rename_i h2
     rw [if_pos h2]
     have h3 := qgx (q3f ih d) h2
     refine q18 f c _ _ ?_ h
     rw [appN, qkm]
     simp only [szs]; omega
    ·cases h
   ·rename_i h1
    rw [if_neg h1]
    exact h0
theorem qby5 (c : K) : SzB c (qh9 rec c) := by
 intro h
 unfold qh9 at h ⊢
 split at h
 ·rename_i h1
  rw [if_pos h1]
  exact q18 ih _ _ _ _ (qgx (q3f ih c) h1) h
 ·cases h
theorem qwm (x : List UInt8) : ∀ (f : Nat) (c : K), SzB c (qck rec x f c)
 | 0, c => fun h => by cases h
 | f + 1, c => fun h => by
   rw [qck] at h ⊢
   split at h
   ·rename_i h1
    rw [if_pos h1]
    have h2 := qwm x f (qu c) h
    have h3 := qbk (c := c) (by omega)
    simp only
    rw [lamN, qkm]
    simp only [szs]; omega
   ·rename_i h1
    rw [if_neg h1]
    split at h
    ·rename_i h2
     rw [if_pos h2]
     have h3 := qgx (ih (qi c x).1) h
     have h4 := (qd c x).2.1
     simp only [ofO]; omega
    ·cases h
theorem q29 (c : K) : SzO c (qb8 rec c) := by
 intro n h
 unfold qb8 at h ⊢
 split at h
 ·rename_i h1
  rw [if_pos h1]
  have h2 := qzu h1
  split at h
  ·rename_i h3
   rw [if_pos h3]
   obtain ⟨m, hm, rfl⟩ := Option.map_eq_some_iff.1 h
   have h4 := q37 hm
   have h5 := qc1 h3
   have h6 := (qmj (rest (qf (qn c 1).1 [58, 58]).1 + 2) (qf (qn c 1).1 [58, 58]).1).2.1
   rw [qpp, qkm]
   simp only [szs]; omega
  ·rename_i h3
   rw [if_neg h3]
   obtain ⟨m, hm, rfl⟩ := Option.map_eq_some_iff.1 h
   unfold toO at hm
   simp only at hm
   split at hm
   ·rename_i h4
    cases hm
    have h5 := qwm ih _ _ _ h4
    rw [qpp, qkm]
    simp only [szs]; omega
   ·cases hm
 ·cases h
omit ih in
theorem qz0 {rd : K → R3} (hd : ∀ c, SzB c (rd c)) : ∀ (f : Nat) (c d : K) (acc : List N), szs acc + 2 * rest d ≤ 2 * rest c → (qcc rd f d acc).2.2 = true → szs (qcc rd f d acc).2.1 + 2 * rest (qcc rd f d acc).1 ≤ 2 * rest c
 | 0, c, d, acc => fun h0 h => by cases h
 | f + 1, c, d, acc => fun h0 h => by
   rw [qcc] at h ⊢
   split at h
   ·rename_i h1
    rw [if_pos h1]
    have h2 := hd d h1
    have h3 := (qk (rd d).1 [59]).2.1
    split at h
    ·rename_i h4
     rw [if_pos h4]
     refine qz0 hd f c _ _ ?_ h
     rw [qhd]
     simp only [szs]; omega
    ·rename_i h4
     rw [if_neg h4]
     have h5 := (qd (qf (rd d).1 [59]).1 [125]).2.1
     simp only
     rw [qhd]
     simp only [szs]; omega
   ·cases h
omit ih in
theorem q3j {rd : K → R3} (hd : ∀ c, SzB c (rd c)) (c : K) (h : (qbp rd c).2.2 = true) : szs (qbp rd c).2.1 + 2 * rest (qbp rd c).1 ≤ 2 * rest c := by
 unfold qbp at h ⊢
 split at h
 ·rename_i h1
  rw [if_pos h1]
  have h2 := (qd c [123]).2.1
  exact qz0 hd _ _ _ _ (by simp only [szs]; omega) h
 ·cases h
theorem qbwb (p : Int) (c : K) : SzB c (qjd rec p c) := by
 intro h
 unfold qjd letB letC at h ⊢
 have hl := q3j (rd := fun c => ofO (qb8 rec c)) (fun c hs => qgx (q29 ih c) hs) c
 generalize qbp (fun c => ofO (qb8 rec c)) c = L at *
 split at h
 ·rename_i h1
  rw [if_pos h1]
  have hl := hl h1
  split at h
  ·rename_i h2
   rw [if_pos h2]
   have h3 := qgx (ih (qi L.1 [105, 110]).1) h
   have h4 := qh6 h2
   simp only
   rw [qkm, qhd]
   simp only [szs]; omega
  ·cases h
 ·cases h
theorem qcei (c : K) : SzB c (qfg rec c) := by
 intro h
 unfold qfg altB altC at h ⊢
 have hp := qb0s (rest c + 2) c
 generalize qcz (rest c + 2) c = r at *
 split at h
 ·rename_i h1
  rw [if_pos h1]
  obtain ⟨n, hn⟩ := Option.isSome_iff_exists.1 h1
  have hp := hp n hn
  split at h
  ·rename_i h2
   rw [if_pos h2]
   have h3 := qgx (ih (qi r.1 [45, 62]).1) h
   have h4 := qh6 h2
   simp only
   rw [altN, qkm, hn]
   simp only [szs, Option.getD_some]; omega
  ·cases h
 ·cases h
theorem qbd2 (p : Int) (c : K) : SzB c (qgr rec p c) := by
 intro h
 unfold qgr q35 q46 at h ⊢
 split at h
 ·rename_i h1
  rw [if_pos h1]
  have h2 := qgx (ih c) h1
  split at h
  ·rename_i h3
   rw [if_pos h3]
   have h4 := q3j (qcei ih) _ h
   have h5 := qh6 h3
   simp only
   rw [qkm]
   simp only [szs]; omega
  ·cases h
 ·cases h
theorem q64 (p : Int) : ∀ (l : List (List UInt8)) (c d : K) (acc : List N), szs acc + 2 * rest d ≤ 2 * rest c → (qeq rec p l d acc).2.2 = true → sz (qeq rec p l d acc).2.1 + 2 * rest (qeq rec p l d acc).1 ≤ 2 * rest c + 1
 | [], c, d, acc => fun h0 h => by rw [qeq, qkm]; simp only; omega
 | w :: r, c, d, acc => fun h0 h => by
   rw [qeq] at h ⊢
   split at h
   ·rename_i h1
    rw [if_pos h1]
    have h2 := (qln d w).2.1
    split at h
    ·rename_i h3
     rw [if_pos h3]
     have h4 := qgx (ih (ifsK d w).1) h3
     refine q64 p r c _ _ ?_ h
     rw [qhd]
     simp only [szs]; omega
    ·cases h
   ·cases h
theorem qbc1 (c : K) : SzB c (qe1 rec c) := by
 intro h
 unfold qe1 at h ⊢
 split at h
 ·rename_i h1
  rw [if_pos h1]
  have h0 := qc1 h1
  split at h
  ·rename_i h2
   rw [if_pos h2]
   have := qwm ih _ _ _ h
   omega
  ·cases h
 ·rename_i h1
  rw [if_neg h1]
  split at h
  ·rename_i h2
   rw [if_pos h2]
   have h0 := qc1 h2
   have := qbwb ih _ _ h
   omega
  ·rename_i h2
   rw [if_neg h2]
   split at h
   ·rename_i h3
    rw [if_pos h3]
    have h0 := qc1 h3
    have := qbd2 ih _ _ h
    omega
   ·rename_i h3
    rw [if_neg h3]
    split at h
    ·rename_i h4
     rw [if_pos h4]
     have h0 := qc1 h4
     have := q64 ih _ _ _ _ _ (by simp only [szs]; exact Nat.le_of_eq (Nat.zero_add _)) h
     omega
    ·rename_i h4
     rw [if_neg h4]
     exact qby5 ih c h
end
theorem qbm1 : ∀ (f : Nat) (c : K), SzO c (qiw f c)
 | 0, c => fun n h => by cases h
 | f + 1, c => fun n h => by
   rw [qiw] at h ⊢
   split at h
   ·rename_i h1
    rw [if_pos h1]
    unfold toO at h
    simp only at h
    split at h
    ·rename_i h2
     cases h
     have h3 := qbc1 (qbm1 f) _ h2
     have h4 := (qm c).2.1
     have h5 := (qbv (qe1 (qiw f) (qc c).1).1).2.1
     simp only; omega
    ·cases h
   ·cases h

end Go.Proofs.YtfjbmjplnmaclaaGreat
