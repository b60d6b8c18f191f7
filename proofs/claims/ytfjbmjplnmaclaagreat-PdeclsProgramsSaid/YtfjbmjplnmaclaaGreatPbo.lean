/- Texts of this proof, joined. -/
import Derived.Test.YtfjbmjplnmaclaaGreatPbi
import Derived.Test.YtfjbmjplnmaclaaGreatPbn
import Derived.Test.YtfjbmjplnmaclaaGreatPaw

/- expressions: what is read is an expression -/
namespace Go.Proofs.YtfjbmjplnmaclaaGreat
open Go Go.RowKit Go.V
set_option linter.unusedVariables false
set_option linter.unusedSimpArgs false

theorem okM {c c' : K} (h : okK c) (m : Mon c c') : okK c' := by unfold okK; rw [m.2.2.2.1]; exact h
theorem qbgg {c : K} (hc : okK c) {n : N} (h : qkg c = some n) : paW n = true := by
 obtain ⟨h1, h2, h3⟩ := qf8 hc
 unfold qkg at h
 split at h
 ·rename_i hk; cases h; rw [paW, if_pos rfl, h1 hk]; rfl
 ·split at h
  ·rename_i hk; cases h; rw [paW, if_neg (by decide), if_neg (by decide), if_neg (by decide), if_pos rfl, h2 hk, pasW]; rfl
  ·split at h
   ·rename_i hk; cases h; rw [paW, if_neg (by decide), if_neg (by decide), if_pos rfl, decide_eq_true (h3 hk)]; rfl
   ·split at h
    ·cases h; rw [paW, if_neg (by decide), if_pos rfl]; rfl
    ·cases h
section
variable {rec : K → K × Option N} (hm : ∀ c, Mon c (rec c).1) (ih : ∀ c, okK c → ∀ n, (rec c).2 = some n → paW n = true)
include hm ih
omit hm in
theorem q2r {c : K} (hc : okK c) : ∀ n, (qb0 rec c).2 = some n → paW n = true := by
 intro n h
 unfold qb0 at h
 split at h
 ·exact qbgg hc h
 ·split at h
  ·split at h
   ·split at h
    ·split at h
     ·exact ih _ (okM hc ((qm c).trans (qbp _))) n h
     ·cases h
    ·cases h
   ·cases h
  ·cases h
theorem q3i : ∀ (f : Nat) (c : K) (acc : List N), okK c → acc.all paW = true → ∀ l, (qic rec f c acc).2 = some l → l.all paW = true
 | 0, c, acc, _, _ => fun n h => by cases h
 | f + 1, c, acc, hc, ha => fun l h => by
   rw [qic] at h
   split at h
   ·split at h
    ·rename_i hs
     obtain ⟨n, hn⟩ := Option.isSome_iff_exists.1 hs
     refine q3i f _ _ (okM hc (qjh hm c)) ?_ l h
     rw [List.all_append, ha, hn]
     simp [q2r ih hc n hn]
    ·cases h
   ·cases h; exact ha
end
theorem q7d : ∀ (f : Nat) (c : K), okK c → ∀ n, (qcz f c).2 = some n → paW n = true
 | 0, c, hc => fun n h => by cases h
 | f + 1, c, hc => fun n h => by
   rw [qcz] at h
   split at h
   ·split at h
    ·rename_i hk
     obtain ⟨l, hl, rfl⟩ := Option.map_eq_some_iff.1 h
     have h1 := q3i (qex f) (q7d f) (rest (qc c).1 + 1) (qu (qc c).1) [] (okM hc ((qm c).trans (qbp _))) rfl l hl
     rw [paW, if_neg (by decide), if_neg (by decide), if_neg (by decide), if_pos rfl, (qf8 (okM hc (qm c))).2.1 hk, q19, h1]; rfl
    ·exact q2r (q7d f) (okM hc (qm c)) n h
   ·cases h

/-! Expressions. -/
theorem qcbx {c : K} (hc : okK c) {n : N} (h : qkd c = some n) : exW n = true := by
 obtain ⟨h1, h2, h3⟩ := qf8 hc
 unfold qkd qid at h
 rw [qq4]
 split at h
 ·rename_i hk; cases h; simp [N.kind, N.num, N.text, N.kids, h1 hk]
 ·split at h
  ·rename_i hk; cases h; simp [N.kind, N.num, N.text, N.kids, h2 hk]
  ·split at h
   ·rename_i hk; cases h; simp [N.kind, N.num, N.text, N.kids, h3 hk]
   ·cases h
theorem qcka {n k : N} (hn : exW n = true) (hk : exW k = true) : exW (appN n k) = true := by
 rw [qq4]; simp [appN, N.kind, N.num, N.text, N.kids, hn, hk]
theorem qcim {t : T} {n : N} (ht : varW t.text = true) (hn : exW n = true) : exW (lamN t n) = true := by
 rw [qq4]; simp [lamN, N.kind, N.num, N.text, N.kids, hn, ht]
theorem qbpl {t : T} {n : N} (ht : varW t.text = true) (hn : exW n = true) : biW (qpl 31 t n) = true := by
 rw [q82]; simp [qpl, N.kind, N.num, N.text, N.kids, hn, ht]
theorem qbtp {t : T} {n : N} (ht : varW t.text = true) (hn : quW n = true) : sgW (qpl 32 t n) = true := by
 simp [sgW, qpl, N.kind, N.num, N.text, N.kids, hn, ht]
theorem qciu {p e : N} (hp : paW p = true) (he : exW e = true) : alW (altN p e) = true := by
 rw [qbmn]; simp [altN, N.kind, N.num, N.text, N.kids, hp, he]
theorem qch1 {p : Int} {l : List N} {k : N} (h0 : l ≠ []) (hl : l.all (fun x => biW x || sgW x) = true) (hk : exW k = true) : exW (.mk 26 p 0 [] (l ++ [k])) = true := by
 have h1 : ((l ++ [k]).length : Int) - 1 = l.length := by simp
 have h2 : (l ++ [k]).take l.length = l := by simp
 have h3 : (l ++ [k]).getD l.length N0 = k := by simp [List.getD_eq_getElem?_getD]
 have h4 : 1 ≤ l.length := by cases l with | nil => exact absurd rfl h0 | cons _ _ => simp
 rw [qq4]
 simp only [N.kind, N.num, N.text, N.kids, h1, Int.toNat_natCast, h2, h3, hl, hk, Int.reduceEq, if_false, if_true, decide_true, Bool.true_and, Bool.and_true, decide_eq_true_eq]
 refine decide_eq_true ?_
 simp only [List.length_append, List.length_cons, List.length_nil]
 omega
theorem qbzp {p : Int} {x : N} {l : List N} (h0 : l ≠ []) (hx : exW x = true) (hl : l.all alW = true) : exW (.mk 27 p 0 [] (x :: l)) = true := by
 have h4 : 1 ≤ l.length := by cases l with | nil => exact absurd rfl h0 | cons _ _ => simp
 rw [qq4]
 simp only [N.kind, N.num, N.text, N.kids, List.getD_cons_zero, List.drop_succ_cons, List.drop_zero, hl, hx, Int.reduceEq, if_false, if_true, decide_true, Bool.true_and, Bool.and_true, decide_eq_true_eq]
 refine decide_eq_true ?_
 simp only [List.length_cons]
 omega
section
variable {rec : K → K × Option N} (hm : ∀ c, Mon c (rec c).1) (ih : ∀ c, okK c → ∀ n, (rec c).2 = some n → exW n = true)
include hm ih
omit hm in
theorem qme {c : K} (hc : okK c) (hs : (rec c).2.isSome = true) : exW ((rec c).2.getD N0) = true := by
 obtain ⟨n, hn⟩ := Option.isSome_iff_exists.1 hs
 rw [hn]
 exact ih c hc n hn
omit hm in
theorem q71 {c : K} (hc : okK c) : ∀ n, (qbl rec c).2 = some n → exW n = true := by
 intro n h
 unfold qbl at h
 split at h
 ·exact qcbx hc h
 ·split at h
  ·split at h
   ·split at h
    ·split at h
     ·exact ih _ (okM hc ((qm c).trans (qbp _))) n h
     ·cases h
    ·cases h
   ·cases h
  ·cases h
theorem qbap : ∀ (f : Nat) (c : K) (n : N), okK c → exW n = true → (qgd rec f c n).2.2 = true → exW (qgd rec f c n).2.1 = true
 | 0, c, n => fun _ _ h => by cases h
 | f + 1, c, n => fun hc hn h => by
   rw [qgd] at h ⊢
   split at h
   ·rename_i h1
    rw [if_pos h1]
    split at h
    ·rename_i h2
     rw [if_pos h2]
     exact qbap f _ _ (okM hc (qdd hm c)) (qcka hn (qme (rec := qbl rec) (fun c hc => q71 ih hc) hc h2)) h
    ·cases h
   ·rename_i h1
    rw [if_neg h1]
    exact hn
theorem qcke {c : K} (hc : okK c) (h : (qhy rec c).2.2 = true) : exW (qhy rec c).2.1 = true := by
 unfold qhy at h ⊢
 split at h
 ·rename_i h1
  rw [if_pos h1]
  exact qbap hm ih _ _ _ (okM hc (qdd hm c)) (qme (rec := qbl rec) (fun c hc => q71 ih hc) hc h1) h
 ·cases h
omit hm in
theorem q0z (x : List UInt8) : ∀ (f : Nat) (c : K), okK c → (qck rec x f c).2.2 = true → exW (qck rec x f c).2.1 = true
 | 0, c => fun _ h => by cases h
 | f + 1, c => fun hc h => by
   rw [qck] at h ⊢
   split at h
   ·rename_i h1
    rw [if_pos h1]
    exact qcim ((qf8 hc).1 h1) (q0z x f (qu c) (okM hc (qbp c)) h)
   ·rename_i h1
    rw [if_neg h1]
    split at h
    ·rename_i h2
     rw [if_pos h2]
     exact qme ih (okM hc (qd c x)) h
    ·cases h
omit hm in
theorem qbaw {c : K} (hc : okK c) : ∀ n, (qca rec c).2 = some n → (biW n || sgW n) = true := by
 intro n h
 unfold qca at h
 split at h
 ·rename_i h1
  have ht : varW (qev c 1).text = true := by rw [(qk8 h1).2]; exact (qf8 hc).1 (qhr h1).2
  split at h
  ·obtain ⟨q, hq, rfl⟩ := Option.map_eq_some_iff.1 h
   rw [qbtp ht (qb95 (okM hc ((qbf c 1).trans (qk _ _))) q hq), Bool.or_true]
  ·obtain ⟨q, hq, rfl⟩ := Option.map_eq_some_iff.1 h
   unfold toO at hq
   simp only at hq
   split at hq
   ·rename_i h2
    cases hq
    rw [qbpl ht (q0z ih _ _ _ (okM hc (qbf c 1)) h2), Bool.true_or]
   ·cases hq
 ·cases h
omit hm ih in
theorem q20 {rd : K → R3} {P : N → Bool} (hd : ∀ c, Mon c (rd c).1) (hP : ∀ c, okK c → (rd c).2.2 = true → P (rd c).2.1 = true) : ∀ (f : Nat) (c : K) (acc : List N), okK c → acc.all P = true → (qcc rd f c acc).2.2 = true → (qcc rd f c acc).2.1.all P = true
 | 0, c, acc => fun _ _ h => by cases h
 | f + 1, c, acc => fun hc ha h => by
   rw [qcc] at h ⊢
   split at h
   ·rename_i h1
    rw [if_pos h1]
    have h2 : (acc ++ [(rd c).2.1]).all P = true := by rw [List.all_append, ha]; simp [hP c hc h1]
    split at h
    ·rename_i h3
     rw [if_pos h3]
     exact q20 hd hP f _ _ (okM hc ((hd c).trans (qk _ _))) h2 h
    ·rename_i h3
     rw [if_neg h3]
     exact h2
   ·cases h
omit hm ih in
theorem q6h {rd : K → R3} {P : N → Bool} (hd : ∀ c, Mon c (rd c).1) (hP : ∀ c, okK c → (rd c).2.2 = true → P (rd c).2.1 = true) {c : K} (hc : okK c) (h : (qbq rd c).2.2 = true) : (qbq rd c).2.1.all P = true := by
 unfold qbq at h ⊢
 split at h
 ·rename_i h1
  rw [if_pos h1]
  exact q20 hd hP _ _ _ (okM hc (qd _ _)) rfl h
 ·cases h
theorem qbvm (p : Int) {c : K} (hc : okK c) (h : (qi2 rec p c).2.2 = true) : exW (qi2 rec p c).2.1 = true := by
 unfold qi2 letB letC at h ⊢
 have hl := q6h (rd := fun c => ofO (qca rec c)) (P := fun x => biW x || sgW x) (fun c => qfv hm c) (fun c hc hs => by
  obtain ⟨n, hn⟩ := Option.isSome_iff_exists.1 hs
  simp only [ofO]
  rw [hn]
  exact qbaw ih hc n hn) hc
 have hn := @qoa (fun c => ofO (qca rec c)) c
 have hml := qgq (rd := fun c => ofO (qca rec c)) (fun c => qfv hm c) c
 split at h
 ·rename_i h1
  rw [if_pos h1]
  split at h
  ·rename_i h2
   rw [if_pos h2]
   exact qch1 (hn h1) (hl h1) (qme ih (okM hc (hml.trans (qd _ _))) h)
  ·cases h
 ·cases h
omit hm in
theorem qbzq {c : K} (hc : okK c) (h : (qfg rec c).2.2 = true) : alW (qfg rec c).2.1 = true := by
 unfold qfg altB altC at h ⊢
 split at h
 ·rename_i h1
  rw [if_pos h1]
  obtain ⟨n, hn⟩ := Option.isSome_iff_exists.1 h1
  split at h
  ·rename_i h2
   rw [if_pos h2, hn]
   exact qciu (q7d _ _ hc n hn) (qme ih (okM hc ((qex _ c).trans (qd _ _))) h)
  ·cases h
 ·cases h
theorem qbdm (p : Int) {c : K} (hc : okK c) (h : (qgj rec p c).2.2 = true) : exW (qgj rec p c).2.1 = true := by
 unfold qgj q42 q5v at h ⊢
 split at h
 ·rename_i h1
  rw [if_pos h1]
  split at h
  ·rename_i h2
   rw [if_pos h2]
   exact qbzp (qoa h) (qme ih hc h1) (q6h (P := alW) (fun c => qlu hm c) (fun c hc hs => qbzq ih hc hs) (okM hc ((hm c).trans (qd _ _))) h)
  ·cases h
 ·cases h
theorem q9n (p : Int) : ∀ (l : List (List UInt8)) (c : K) (acc : List N), okK c → acc.all exW = true → acc.length + l.length = 3 → (qeq rec p l c acc).2.2 = true → exW (qeq rec p l c acc).2.1 = true
 | [], c, acc => fun hc ha hn h => by
   rw [qeq, qq4]
   simp only [List.length_nil, Nat.add_zero] at hn
   simp [N.kind, N.num, N.text, N.kids, hn]
   simpa using ha
 | w :: r, c, acc => fun hc ha hn h => by
   rw [qeq] at h ⊢
   split at h
   ·rename_i h1
    rw [if_pos h1]
    split at h
    ·rename_i h2
     rw [if_pos h2]
     refine q9n p r _ _ (okM hc ((qlt c w).trans (hm _))) ?_ (by simp only [List.length_append, List.length_cons, List.length_nil] at hn ⊢; omega) h
     rw [List.all_append, ha]
     simp [qme ih (okM hc (qlt c w)) h2]
    ·cases h
   ·cases h
theorem qbf6 {c : K} (hc : okK c) (h : (qew rec c).2.2 = true) : exW (qew rec c).2.1 = true := by
 unfold qew at h ⊢
 split at h
 ·rename_i h1
  rw [if_pos h1]
  split at h
  ·rename_i h2
   rw [if_pos h2]
   exact q0z ih _ _ _ (okM hc (qk _ _)) h
  ·cases h
 ·rename_i h1
  rw [if_neg h1]
  split at h
  ·rename_i h2
   rw [if_pos h2]
   exact qbvm hm ih _ (okM hc (qk _ _)) h
  ·rename_i h2
   rw [if_neg h2]
   split at h
   ·rename_i h3
    rw [if_pos h3]
    exact qbdm hm ih _ (okM hc (qk _ _)) h
   ·rename_i h3
    rw [if_neg h3]
    split at h
    ·rename_i h4
     rw [if_pos h4]
     exact q9n hm ih _ _ _ _ (okM hc (qk _ _)) rfl rfl h
    ·rename_i h4
     rw [if_neg h4]
     exact qcke hm ih hc h
end
theorem qbmb : ∀ (f : Nat) (c : K), okK c → ∀ n, (qix f c).2 = some n → exW n = true
 | 0, c, _ => fun n h => by cases h
 | f + 1, c, hc => fun n h => by
   rw [qix] at h
   split at h
   ·unfold toO at h
    simp only at h
    split at h
    ·rename_i h2
     cases h
     exact qbf6 (qi5 f) (qbmb f) (okM hc (qm c)) h2
    ·cases h
   ·cases h

theorem qbfs {n : N} (h : sz n ≤ 1000000) : lowW n = decide (depR n ≤ 100) := by
 rw [lowW, qbdh n 1 false (by omega) (by omega), qba8 n (by omega)]
 congr 1; simp only [eq_iff_iff]; omega
theorem qzb : ∀ {l : List T} {t : T}, t ∈ qhg l → t ∈ l
 | [], t, h => h
 | u :: r, t, h => by
   rw [qhg] at h
   split at h
   ·simp at h
   ·rcases List.mem_cons.1 h with rfl | h
    ·simp
    ·exact List.mem_cons_of_mem _ (qzb h)
theorem qb9e (s : List UInt8) : okK (newK (lexV s).1) := fun t ht => q49 t (qzb ht)
end Go.Proofs.YtfjbmjplnmaclaaGreat
