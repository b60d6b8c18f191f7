/- Texts of this proof, joined. -/
import Derived.Test.YtfjbmjplnmaclaaGreatQbi
import Derived.Test.YtfjbmjplnmaclaaGreatQbn
import Derived.Test.YtfjbmjplnmaclaaGreatQaw

/- expressions: what is read is an expression -/
namespace Go.Proofs.YtfjbmjplnmaclaaGreat
open Go Go.RowKit Go.V
set_option linter.unusedVariables false
set_option linter.unusedSimpArgs false

theorem okM {c c' : K} (h : okK c) (m : Mon c c') : okK c' := by unfold okK; rw [m.2.2.2.1]; exact h
theorem qbfw {c : K} (hc : okK c) {n : N} (h : qkg c = some n) : paW n = true := by
 obtain ⟨h1, h2, h3⟩ := qf6 hc
 unfold qkg at h
 split at h
 ·rename_i hk; cases h; rw [paW, if_pos rfl, h1 hk]; rfl
 ·split at h
  ·rename_i hk; cases h; rw [paW, if_neg (by decide), if_neg (by decide), if_neg (by decide), if_pos rfl, h2 hk, pasW]; rfl
  ·split at h
   ·rename_i hk; cases h; rw [paW, if_neg (by decide), if_neg (by decide), if_pos rfl, decide_eq_true (h3 hk)]; rfl
   ·split at h
    ·cases h; rw [paW, if_neg (by decide), if_pos rfl]; rfl
    ·cases h
section
variable {rec : K → K × Option N} (hm : ∀ c, Mon c (rec c).1) (ih : ∀ c, okK c → ∀ n, (rec c).2 = some n → paW n = true)
include hm ih
omit hm in
theorem q3o {c : K} (hc : okK c) : ∀ n, (qb0 rec c).2 = some n → paW n = true := by
 intro n h
 unfold qb0 at h
 split at h
 ·exact qbfw hc h
 ·split at h
  ·split at h
   ·split at h
    ·split at h
     ·exact ih _ (okM hc ((qm c).trans (qbo _))) n h
     ·cases h
    ·cases h
   ·cases h
  ·cases h
theorem q27 : ∀ (f : Nat) (c : K) (acc : List N), okK c → acc.all paW = true → ∀ l, (qif rec f c acc).2 = some l → l.all paW = true
 | 0, c, acc, _, _ => fun n h => by cases h
 | f + 1, c, acc, hc, ha => fun l h => by
   rw [qif] at h
   split at h
   ·split at h
    ·rename_i hs
     obtain ⟨n, hn⟩ := Option.isSome_iff_exists.1 hs
     refine q27 f _ _ (okM hc (qjv hm c)) ?_ l h
     rw [List.all_append, ha, hn]
     simp [q3o ih hc n hn]
    ·cases h
   ·cases h; exact ha
end
theorem q9n : ∀ (f : Nat) (c : K), okK c → ∀ n, (qcz f c).2 = some n → paW n = true
 | 0, c, hc => fun n h => by cases h
 | f + 1, c, hc => fun n h => by
   rw [qcz] at h
   split at h
   ·split at h
    ·rename_i hk
     obtain ⟨l, hl, rfl⟩ := Option.map_eq_some_iff.1 h
     have h1 := q27 (qe0 f) (q9n f) (rest (qc c).1 + 1) (qu (qc c).1) [] (okM hc ((qm c).trans (qbo _))) rfl l hl
     rw [paW, if_neg (by decide), if_neg (by decide), if_neg (by decide), if_pos rfl, (qf6 (okM hc (qm c))).2.1 hk, q2x, h1]; rfl
    ·exact q3o (q9n f) (okM hc (qm c)) n h
   ·cases h

/-! Expressions. -/
theorem qb6m {c : K} (hc : okK c) {n : N} (h : qkj c = some n) : exW n = true := by
 obtain ⟨h1, h2, h3⟩ := qf6 hc
 unfold qkj qie at h
 rw [qrz]
 split at h
 ·rename_i hk; cases h; simp [N.kind, N.num, N.text, N.kids, h1 hk]
 ·split at h
  ·rename_i hk; cases h; simp [N.kind, N.num, N.text, N.kids, h2 hk]
  ·split at h
   ·rename_i hk; cases h; simp [N.kind, N.num, N.text, N.kids, h3 hk]
   ·cases h
theorem qcex {n k : N} (hn : exW n = true) (hk : exW k = true) : exW (appN n k) = true := by
 rw [qrz]; simp [appN, N.kind, N.num, N.text, N.kids, hn, hk]
theorem qceu {t : T} {n : N} (ht : varW t.text = true) (hn : exW n = true) : exW (lamN t n) = true := by
 rw [qrz]; simp [lamN, N.kind, N.num, N.text, N.kids, hn, ht]
theorem qbqq {t : T} {n : N} (ht : varW t.text = true) (hn : exW n = true) : biW (qpp 31 t n) = true := by
 rw [qbav]; simp [qpp, N.kind, N.num, N.text, N.kids, hn, ht]
theorem qb9e {t : T} {n : N} (ht : varW t.text = true) (hn : quW n = true) : sgW (qpp 32 t n) = true := by
 simp [sgW, qpp, N.kind, N.num, N.text, N.kids, hn, ht]
theorem qcfr {p e : N} (hp : paW p = true) (he : exW e = true) : alW (altN p e) = true := by
 rw [qbmm]; simp [altN, N.kind, N.num, N.text, N.kids, hp, he]
theorem qcfd {p : Int} {l : List N} {k : N} (h0 : l ≠ []) (hl : l.all (fun x => biW x || sgW x) = true) (hk : exW k = true) : exW (.mk 26 p 0 [] (l ++ [k])) = true := by
 have h1 : ((l ++ [k]).length : Int) - 1 = l.length := by simp
 have h2 : (l ++ [k]).take l.length = l := by simp
 have h3 : (l ++ [k]).getD l.length N0 = k := by simp [List.getD_eq_getElem?_getD]
 have h4 : 1 ≤ l.length := by cases l with | nil => exact absurd rfl h0 | cons _ _ => simp
 rw [qrz]
 simp only [N.kind, N.num, N.text, N.kids, h1, Int.toNat_natCast, h2, h3, hl, hk, Int.reduceEq, if_false, if_true, decide_true, Bool.true_and, Bool.and_true, decide_eq_true_eq]
 refine decide_eq_true ?_
 simp only [List.length_append, List.length_cons, List.length_nil]
 omega
theorem qbno {p : Int} {x : N} {l : List N} (h0 : l ≠ []) (hx : exW x = true) (hl : l.all alW = true) : exW (.mk 27 p 0 [] (x :: l)) = true := by
 have h4 : 1 ≤ l.length := by cases l with | nil => exact absurd rfl h0 | cons _ _ => simp
 rw [qrz]
 simp only [N.kind, N.num, N.text, N.kids, List.getD_cons_zero, List.drop_succ_cons, List.drop_zero, hl, hx, Int.reduceEq, if_false, if_true, decide_true, Bool.true_and, Bool.and_true, decide_eq_true_eq]
 refine decide_eq_true ?_
 simp only [List.length_cons]
 omega
section
variable {rec : K → K × Option N} (hm : ∀ c, Mon c (rec c).1) (ih : ∀ c, okK c → ∀ n, (rec c).2 = some n → exW n = true)
include hm ih
omit hm in
theorem qmf {c : K} (hc : okK c) (hs : (rec c).2.isSome = true) : exW ((rec c).2.getD N0) = true := by
 obtain ⟨n, hn⟩ := Option.isSome_iff_exists.1 hs
 rw [hn]
 exact ih c hc n hn
omit hm in
theorem q76 {c : K} (hc : okK c) : ∀ n, (qbl rec c).2 = some n → exW n = true := by
 intro n h
 unfold qbl at h
 split at h
 ·exact qb6m hc h
 ·split at h
  ·split at h
   ·split at h
    ·split at h
     ·exact ih _ (okM hc ((qm c).trans (qbo _))) n h
     ·cases h
    ·cases h
   ·cases h
  ·cases h
theorem qbbp : ∀ (f : Nat) (c : K) (n : N), okK c → exW n = true → (qgg rec f c n).2.2 = true → exW (qgg rec f c n).2.1 = true
 | 0, c, n => fun _ _ h => by cases h
 | f + 1, c, n => fun hc hn h => by
   rw [qgg] at h ⊢
   split at h
   ·rename_i h1
    rw [if_pos h1]
    split at h
    ·rename_i h2
     rw [if_pos h2]
     exact qbbp f _ _ (okM hc (qdc hm c)) (qcex hn (qmf (rec := qbl rec) (fun c hc => q76 ih hc) hc h2)) h
    ·cases h
   ·rename_i h1
    rw [if_neg h1]
    exact hn
theorem qcjx {c : K} (hc : okK c) (h : (qh9 rec c).2.2 = true) : exW (qh9 rec c).2.1 = true := by
 unfold qh9 at h ⊢
 split at h
 ·rename_i h1
  rw [if_pos h1]
  exact qbbp hm ih _ _ _ (okM hc (qdc hm c)) (qmf (rec := qbl rec) (fun c hc => q76 ih hc) hc h1) h
 ·cases h
omit hm in
theorem qz9 (x : List UInt8) : ∀ (f : Nat) (c : K), okK c → (qck rec x f c).2.2 = true → exW (qck rec x f c).2.1 = true
 | 0, c => fun _ h => by cases h
 | f + 1, c => fun hc h => by
   rw [qck] at h ⊢
   split at h
   ·rename_i h1
    rw [if_pos h1]
    exact qceu ((qf6 hc).1 h1) (qz9 x f (qu c) (okM hc (qbo c)) h)
   ·rename_i h1
    rw [if_neg h1]
    split at h
    ·rename_i h2
     rw [if_pos h2]
     exact qmf ih (okM hc (qd c x)) h
    ·cases h
omit hm in
theorem q69 {c : K} (hc : okK c) : ∀ n, (qb8 rec c).2 = some n → (biW n || sgW n) = true := by
 intro n h
 unfold qb8 at h
 split at h
 ·rename_i h1
  have ht : varW (qev c 1).text = true := by rw [(qlk h1).2]; exact (qf6 hc).1 (qhm h1).2
  split at h
  ·obtain ⟨q, hq, rfl⟩ := Option.map_eq_some_iff.1 h
   rw [qb9e ht (qbuc (okM hc ((qbf c 1).trans (qk _ _))) q hq), Bool.or_true]
  ·obtain ⟨q, hq, rfl⟩ := Option.map_eq_some_iff.1 h
   unfold toO at hq
   simp only at hq
   split at hq
   ·rename_i h2
    cases hq
    rw [qbqq ht (qz9 ih _ _ _ (okM hc (qbf c 1)) h2), Bool.true_or]
   ·cases hq
 ·cases h
omit hm ih in
theorem q14 {rd : K → R3} {P : N → Bool} (hd : ∀ c, Mon c (rd c).1) (hP : ∀ c, okK c → (rd c).2.2 = true → P (rd c).2.1 = true) : ∀ (f : Nat) (c : K) (acc : List N), okK c → acc.all P = true → (qcc rd f c acc).2.2 = true → (qcc rd f c acc).2.1.all P = true
 | 0, c, acc => fun _ _ h => by cases h
 | f + 1, c, acc => fun hc ha h => by
   rw [qcc] at h ⊢
   split at h
   ·rename_i h1
    rw [if_pos h1]
    have h2 : (acc ++ [(rd c).2.1]).all P = true := by rw [List.all_append, ha]; simp [hP c hc h1]
    split at h
    ·rename_i h3
     rw [if_pos h3]
     exact q14 hd hP f _ _ (okM hc ((hd c).trans (qk _ _))) h2 h
    ·rename_i h3
     rw [if_neg h3]
     exact h2
   ·cases h
omit hm ih in
theorem q9q {rd : K → R3} {P : N → Bool} (hd : ∀ c, Mon c (rd c).1) (hP : ∀ c, okK c → (rd c).2.2 = true → P (rd c).2.1 = true) {c : K} (hc : okK c) (h : (qbp rd c).2.2 = true) : (qbp rd c).2.1.all P = true := by
 unfold qbp at h ⊢
 split at h
 ·rename_i h1
  rw [if_pos h1]
  exact q14 hd hP _ _ _ (okM hc (qd _ _)) rfl h
 ·cases h
theorem qbwi (p : Int) {c : K} (hc : okK c) (h : (qjd rec p c).2.2 = true) : exW (qjd rec p c).2.1 = true := by
 unfold qjd letB letC at h ⊢
 have hl := q9q (rd := fun c => ofO (qb8 rec c)) (P := fun x => biW x || sgW x) (fun c => qfs hm c) (fun c hc hs => by
  obtain ⟨n, hn⟩ := Option.isSome_iff_exists.1 hs
  simp only [ofO]
  rw [hn]
  exact q69 ih hc n hn) hc
 have hn := @qom (fun c => ofO (qb8 rec c)) c
 have hml := qgt (rd := fun c => ofO (qb8 rec c)) (fun c => qfs hm c) c
 split at h
 ·rename_i h1
  rw [if_pos h1]
  split at h
  ·rename_i h2
   rw [if_pos h2]
   exact qcfd (hn h1) (hl h1) (qmf ih (okM hc (hml.trans (qd _ _))) h)
  ·cases h
 ·cases h
omit hm in
theorem qby7 {c : K} (hc : okK c) (h : (qfg rec c).2.2 = true) : alW (qfg rec c).2.1 = true := by
 unfold qfg altB altC at h ⊢
 split at h
 ·rename_i h1
  rw [if_pos h1]
  obtain ⟨n, hn⟩ := Option.isSome_iff_exists.1 h1
  split at h
  ·rename_i h2
   rw [if_pos h2, hn]
   exact qcfr (q9n _ _ hc n hn) (qmf ih (okM hc ((qe0 _ c).trans (qd _ _))) h)
  ·cases h
 ·cases h
theorem qbki (p : Int) {c : K} (hc : okK c) (h : (qgr rec p c).2.2 = true) : exW (qgr rec p c).2.1 = true := by
 unfold qgr q35 q46 at h ⊢
 split at h
 ·rename_i h1
  rw [if_pos h1]
  split at h
  ·rename_i h2
   rw [if_pos h2]
   exact qbno (qom h) (qmf ih hc h1) (q9q (P := alW) (fun c => qlt hm c) (fun c hc hs => qby7 ih hc hs) (okM hc ((hm c).trans (qd _ _))) h)
  ·cases h
 ·cases h
theorem q6j (p : Int) : ∀ (l : List (List UInt8)) (c : K) (acc : List N), okK c → acc.all exW = true → acc.length + l.length = 3 → (qeq rec p l c acc).2.2 = true → exW (qeq rec p l c acc).2.1 = true
 | [], c, acc => fun hc ha hn h => by
   rw [qeq, qrz]
   simp only [List.length_nil, Nat.add_zero] at hn
   simp [N.kind, N.num, N.text, N.kids, hn]
   simpa using ha
 | w :: r, c, acc => fun hc ha hn h => by
   rw [qeq] at h ⊢
   split at h
   ·rename_i h1
    rw [if_pos h1]
    split at h
    ·rename_i h2
     rw [if_pos h2]
     refine q6j p r _ _ (okM hc ((qln c w).trans (hm _))) ?_ (by simp only [List.length_append, List.length_cons, List.length_nil] at hn ⊢; omega) h
     rw [List.all_append, ha]
     simp [qmf ih (okM hc (qln c w)) h2]
    ·cases h
   ·cases h
theorem qbd4 {c : K} (hc : okK c) (h : (qe1 rec c).2.2 = true) : exW (qe1 rec c).2.1 = true := by
 unfold qe1 at h ⊢
 split at h
 ·rename_i h1
  rw [if_pos h1]
  split at h
  ·rename_i h2
   rw [if_pos h2]
   exact qz9 ih _ _ _ (okM hc (qk _ _)) h
  ·cases h
 ·rename_i h1
  rw [if_neg h1]
  split at h
  ·rename_i h2
   rw [if_pos h2]
   exact qbwi hm ih _ (okM hc (qk _ _)) h
  ·rename_i h2
   rw [if_neg h2]
   split at h
   ·rename_i h3
    rw [if_pos h3]
    exact qbki hm ih _ (okM hc (qk _ _)) h
   ·rename_i h3
    rw [if_neg h3]
    split at h
    ·rename_i h4
     rw [if_pos h4]
     exact q6j hm ih _ _ _ _ (okM hc (qk _ _)) rfl rfl h
    ·rename_i h4
     rw [if_neg h4]
     exact qcjx hm ih hc h
end
theorem qbmh : ∀ (f : Nat) (c : K), okK c → ∀ n, (qiw f c).2 = some n → exW n = true
 | 0, c, _ => fun n h => by cases h
 | f + 1, c, hc => fun n h => by
   rw [qiw] at h
   split at h
   ·unfold toO at h
    simp only at h
    split at h
    ·rename_i h2
     cases h
     exact qbd4 (qi3 f) (qbmh f) (okM hc (qm c)) h2
    ·cases h
   ·cases h

theorem qbhp {n : N} (h : sz n ≤ 1000000) : lowW n = decide (depR n ≤ 100) := by
 rw [lowW, qbh2 n 1 false (by omega) (by omega), qbaa n (by omega)]
 congr 1; simp only [eq_iff_iff]; omega
theorem qzr : ∀ {l : List T} {t : T}, t ∈ qhh l → t ∈ l
 | [], t, h => h
 | u :: r, t, h => by
   rw [qhh] at h
   split at h
   ·simp at h
   ·rcases List.mem_cons.1 h with rfl | h
    ·simp
    ·exact List.mem_cons_of_mem _ (qzr h)
theorem q9s (s : List UInt8) : okK (newK (lexV s).1) := fun t ht => q6c t (qzr ht)
end Go.Proofs.YtfjbmjplnmaclaaGreat
