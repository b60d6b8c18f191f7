/- A text of this proof. -/
import Derived.Test.YtmekebfgmjaenaaGreatEbj
import Derived.Test.YtmekebfgmjaenaaGreatEbl
import Derived.Test.YtmekebfgmjaenaaGreatEax

/- expressions: what is read is an expression -/
namespace Go.Proofs.YtmekebfgmjaenaaGreat
open Go Go.RowKit Go.V
set_option linter.unusedVariables false
set_option linter.unusedSimpArgs false

theorem okM {c c' : K} (h : okK c) (m : Mon c c') : okK c' := by unfold okK; rw [m.2.2.2]; exact h
theorem q5j {c : K} (hc : okK c) {n : N} (h : qit c = some n) : paW n = true := by
  obtain ⟨h1, h2, h3⟩ := qhn hc
  unfold qit at h
  split at h
  · rename_i hk; cases h; rw [paW, if_pos rfl, h1 hk]; rfl
  · split at h
    · rename_i hk; cases h; rw [paW, if_neg (by decide), if_neg (by decide), if_neg (by decide), if_pos rfl, h2 hk, pasW]; rfl
    · split at h
      · rename_i hk; cases h; rw [paW, if_neg (by decide), if_neg (by decide), if_pos rfl, decide_eq_true (h3 hk)]; rfl
      · split at h
        · cases h; rw [paW, if_neg (by decide), if_pos rfl]; rfl
        · cases h
section
variable {rec : K → K × Option N} (hm : ∀ c, Mon c (rec c).1) (ih : ∀ c, okK c → ∀ n, (rec c).2 = some n → paW n = true)
include hm ih
omit hm in
theorem qxg {c : K} (hc : okK c) : ∀ n, (qbx rec c).2 = some n → paW n = true := by
  intro n h
  unfold qbx at h
  split at h
  · exact q5j hc h
  · split at h
    · split at h
      · split at h
        · split at h
          · exact ih _ (okM hc ((qx c).trans (qbs _))) n h
          · cases h
        · cases h
      · cases h
    · cases h
theorem qyb : ∀ (f : Nat) (c : K) (acc : List N), okK c → acc.all paW = true → ∀ l, (qhb rec f c acc).2 = some l → l.all paW = true
  | 0, c, acc, _, _ => fun n h => by cases h
  | f + 1, c, acc, hc, ha => fun l h => by
    rw [qhb] at h
    split at h
    · split at h
      · rename_i hs
        obtain ⟨n, hn⟩ := Option.isSome_iff_exists.1 hs
        refine qyb f _ _ (okM hc (qie hm c)) ?_ l h
        rw [List.all_append, ha, hn]
        simp [qxg ih hc n hn]
      · cases h
    · cases h; exact ha
end
theorem q34 : ∀ (f : Nat) (c : K), okK c → ∀ n, (qcu f c).2 = some n → paW n = true
  | 0, c, hc => fun n h => by cases h
  | f + 1, c, hc => fun n h => by
    rw [qcu] at h
    split at h
    · split at h
      · rename_i hk
        obtain ⟨l, hl, rfl⟩ := Option.map_eq_some_iff.1 h
        have h1 := qyb (qek f) (q34 f) (rest (qj c).1 + 1) (q9 (qj c).1) [] (okM hc ((qx c).trans (qbs _))) rfl l hl
        rw [paW, if_neg (by decide), if_neg (by decide), if_neg (by decide), if_pos rfl, (qhn (okM hc (qx c))).2.1 hk, qxt, h1]; rfl
      · exact qxg (q34 f) (okM hc (qx c)) n h
    · cases h

/-! Expressions. -/
theorem qbhv {c : K} (hc : okK c) {n : N} (h : qiu c = some n) : exW n = true := by
  obtain ⟨h1, h2, h3⟩ := qhn hc
  unfold qiu qh1 at h
  rw [qpb]
  split at h
  · rename_i hk; cases h; simp [N.kind, N.num, N.text, N.kids, h1 hk]
  · split at h
    · rename_i hk; cases h; simp [N.kind, N.num, N.text, N.kids, h2 hk]
    · split at h
      · rename_i hk; cases h; simp [N.kind, N.num, N.text, N.kids, h3 hk]
      · cases h
theorem qb46 {n k : N} (hn : exW n = true) (hk : exW k = true) : exW (appN n k) = true := by
  rw [qpb]; simp [appN, N.kind, N.num, N.text, N.kids, hn, hk]
theorem qbz3 {t : T} {n : N} (ht : varW t.text = true) (hn : exW n = true) : exW (lamN t n) = true := by
  rw [qpb]; simp [lamN, N.kind, N.num, N.text, N.kids, hn, ht]
theorem qbit {t : T} {n : N} (ht : varW t.text = true) (hn : exW n = true) : biW (qm4 31 t n) = true := by
  rw [qbdb]; simp [qm4, N.kind, N.num, N.text, N.kids, hn, ht]
theorem qbwi {t : T} {n : N} (ht : varW t.text = true) (hn : quW n = true) : sgW (qm4 32 t n) = true := by
  simp [sgW, qm4, N.kind, N.num, N.text, N.kids, hn, ht]
theorem qb6r {p e : N} (hp : paW p = true) (he : exW e = true) : alW (altN p e) = true := by
  rw [qbdn]; simp [altN, N.kind, N.num, N.text, N.kids, hp, he]
theorem qb59 {p : Int} {l : List N} {k : N} (h0 : l ≠ []) (hl : l.all (fun x => biW x || sgW x) = true) (hk : exW k = true) : exW (.mk 26 p 0 [] (l ++ [k])) = true := by
  have h1 : ((l ++ [k]).length : Int) - 1 = l.length := by simp
  have h2 : (l ++ [k]).take l.length = l := by simp
  have h3 : (l ++ [k]).getD l.length N0 = k := by simp [List.getD_eq_getElem?_getD]
  have h4 : 1 ≤ l.length := by cases l with | nil => exact absurd rfl h0 | cons _ _ => simp
  rw [qpb]
  simp only [N.kind, N.num, N.text, N.kids, h1, Int.toNat_natCast, h2, h3, hl, hk, Int.reduceEq, if_false, if_true, decide_true, Bool.true_and, Bool.and_true, decide_eq_true_eq]
  refine decide_eq_true ?_
  simp only [List.length_append, List.length_cons, List.length_nil]
  omega
theorem qbtv {p : Int} {x : N} {l : List N} (h0 : l ≠ []) (hx : exW x = true) (hl : l.all alW = true) : exW (.mk 27 p 0 [] (x :: l)) = true := by
  have h4 : 1 ≤ l.length := by cases l with | nil => exact absurd rfl h0 | cons _ _ => simp
  rw [qpb]
  simp only [N.kind, N.num, N.text, N.kids, List.getD_cons_zero, List.drop_succ_cons, List.drop_zero, hl, hx, Int.reduceEq, if_false, if_true, decide_true, Bool.true_and, Bool.and_true, decide_eq_true_eq]
  refine decide_eq_true ?_
  simp only [List.length_cons]
  omega
section
variable {rec : K → K × Option N} (hm : ∀ c, Mon c (rec c).1) (ih : ∀ c, okK c → ∀ n, (rec c).2 = some n → exW n = true)
include hm ih
omit hm in
theorem qkq {c : K} (hc : okK c) (hs : (rec c).2.isSome = true) : exW ((rec c).2.getD N0) = true := by
  obtain ⟨n, hn⟩ := Option.isSome_iff_exists.1 hs
  rw [hn]
  exact ih c hc n hn
omit hm in
theorem q3r {c : K} (hc : okK c) : ∀ n, (qbl rec c).2 = some n → exW n = true := by
  intro n h
  unfold qbl at h
  split at h
  · exact qbhv hc h
  · split at h
    · split at h
      · split at h
        · split at h
          · exact ih _ (okM hc ((qx c).trans (qbs _))) n h
          · cases h
        · cases h
      · cases h
    · cases h
theorem q1m : ∀ (f : Nat) (c : K) (n : N), okK c → exW n = true → (qfj rec f c n).2.2 = true → exW (qfj rec f c n).2.1 = true
  | 0, c, n => fun _ _ h => by cases h
  | f + 1, c, n => fun hc hn h => by
    rw [qfj] at h ⊢
    split at h
    · rename_i h1
      rw [if_pos h1]
      split at h
      · rename_i h2
        rw [if_pos h2]
        exact q1m f _ _ (okM hc (qc7 hm c)) (qb46 hn (qkq (rec := qbl rec) (fun c hc => q3r ih hc) hc h2)) h
      · cases h
    · rename_i h1
      rw [if_neg h1]
      exact hn
theorem qb6a {c : K} (hc : okK c) (h : (qg7 rec c).2.2 = true) : exW (qg7 rec c).2.1 = true := by
  unfold qg7 at h ⊢
  split at h
  · rename_i h1
    rw [if_pos h1]
    exact q1m hm ih _ _ _ (okM hc (qc7 hm c)) (qkq (rec := qbl rec) (fun c hc => q3r ih hc) hc h1) h
  · cases h
omit hm in
theorem qvf (x : List UInt8) : ∀ (f : Nat) (c : K), okK c → (qcj rec x f c).2.2 = true → exW (qcj rec x f c).2.1 = true
  | 0, c => fun _ h => by cases h
  | f + 1, c => fun hc h => by
    rw [qcj] at h ⊢
    split at h
    · rename_i h1
      rw [if_pos h1]
      exact qbz3 ((qhn hc).1 h1) (qvf x f (q9 c) (okM hc (qbs c)) h)
    · rename_i h1
      rw [if_neg h1]
      split at h
      · rename_i h2
        rw [if_pos h2]
        exact qkq ih (okM hc (qq c x)) h
      · cases h
omit hm in
theorem qbs5 {c : K} (hc : okK c) : ∀ n, (qcd rec c).2 = some n → (biW n || sgW n) = true := by
  intro n h
  unfold qcd at h
  split at h
  · rename_i h1
    have ht : varW (qis c 1).text = true := by rw [(qr8 h1).2]; exact (qhn hc).1 (qk2 h1).2
    split at h
    · obtain ⟨q, hq, rfl⟩ := Option.map_eq_some_iff.1 h
      rw [qbwi ht (qbtq (okM hc ((qcx c 1).trans (q8 _ _))) q hq), Bool.or_true]
    · obtain ⟨q, hq, rfl⟩ := Option.map_eq_some_iff.1 h
      unfold toO at hq
      simp only at hq
      split at hq
      · rename_i h2
        cases hq
        rw [qbit ht (qvf ih _ _ _ (okM hc (qcx c 1)) h2), Bool.true_or]
      · cases hq
  · cases h
omit hm ih in
theorem qyc {rd : K → R3} {P : N → Bool} (hd : ∀ c, Mon c (rd c).1) (hP : ∀ c, okK c → (rd c).2.2 = true → P (rd c).2.1 = true) : ∀ (f : Nat) (c : K) (acc : List N), okK c → acc.all P = true → (qb7 rd f c acc).2.2 = true → (qb7 rd f c acc).2.1.all P = true
  | 0, c, acc => fun _ _ h => by cases h
  | f + 1, c, acc => fun hc ha h => by
    rw [qb7] at h ⊢
    split at h
    · rename_i h1
      rw [if_pos h1]
      have h2 : (acc ++ [(rd c).2.1]).all P = true := by rw [List.all_append, ha]; simp [hP c hc h1]
      split at h
      · rename_i h3
        rw [if_pos h3]
        exact qyc hd hP f _ _ (okM hc ((hd c).trans (q8 _ _))) h2 h
      · rename_i h3
        rw [if_neg h3]
        exact h2
    · cases h
omit hm ih in
theorem q1e {rd : K → R3} {P : N → Bool} (hd : ∀ c, Mon c (rd c).1) (hP : ∀ c, okK c → (rd c).2.2 = true → P (rd c).2.1 = true) {c : K} (hc : okK c) (h : (qbr rd c).2.2 = true) : (qbr rd c).2.1.all P = true := by
  unfold qbr at h ⊢
  split at h
  · rename_i h1
    rw [if_pos h1]
    exact qyc hd hP _ _ _ (okM hc (qq _ _)) rfl h
  · cases h
theorem qbus (p : Int) {c : K} (hc : okK c) (h : (qhz rec p c).2.2 = true) : exW (qhz rec p c).2.1 = true := by
  unfold qhz letB letC at h ⊢
  have hl := q1e (rd := fun c => ofO (qcd rec c)) (P := fun x => biW x || sgW x) (fun c => qfu hm c) (fun c hc hs => by
    obtain ⟨n, hn⟩ := Option.isSome_iff_exists.1 hs
    simp only [ofO]
    rw [hn]
    exact qbs5 ih hc n hn) hc
  have hn := @qmd (fun c => ofO (qcd rec c)) c
  have hml := qf2 (rd := fun c => ofO (qcd rec c)) (fun c => qfu hm c) c
  split at h
  · rename_i h1
    rw [if_pos h1]
    split at h
    · rename_i h2
      rw [if_pos h2]
      exact qb59 (hn h1) (hl h1) (qkq ih (okM hc (hml.trans (qq _ _))) h)
    · cases h
  · cases h
omit hm in
theorem qbtt {c : K} (hc : okK c) (h : (qeu rec c).2.2 = true) : alW (qeu rec c).2.1 = true := by
  unfold qeu altB altC at h ⊢
  split at h
  · rename_i h1
    rw [if_pos h1]
    obtain ⟨n, hn⟩ := Option.isSome_iff_exists.1 h1
    split at h
    · rename_i h2
      rw [if_pos h2, hn]
      exact qb6r (q34 _ _ hc n hn) (qkq ih (okM hc ((qek _ c).trans (qq _ _))) h)
    · cases h
  · cases h
theorem qba5 (p : Int) {c : K} (hc : okK c) (h : (qf0 rec p c).2.2 = true) : exW (qf0 rec p c).2.1 = true := by
  unfold qf0 qzx qy5 at h ⊢
  split at h
  · rename_i h1
    rw [if_pos h1]
    split at h
    · rename_i h2
      rw [if_pos h2]
      exact qbtv (qmd h) (qkq ih hc h1) (q1e (P := alW) (fun c => qj1 hm c) (fun c hc hs => qbtt ih hc hs) (okM hc ((hm c).trans (qq _ _))) h)
    · cases h
  · cases h
theorem q0u (p : Int) : ∀ (l : List (List UInt8)) (c : K) (acc : List N), okK c → acc.all exW = true → acc.length + l.length = 3 → (qea rec p l c acc).2.2 = true → exW (qea rec p l c acc).2.1 = true
  | [], c, acc => fun hc ha hn h => by
    rw [qea, qpb]
    simp only [List.length_nil, Nat.add_zero] at hn
    simp [N.kind, N.num, N.text, N.kids, hn]
    simpa using ha
  | w :: r, c, acc => fun hc ha hn h => by
    rw [qea] at h ⊢
    split at h
    · rename_i h1
      rw [if_pos h1]
      split at h
      · rename_i h2
        rw [if_pos h2]
        refine q0u p r _ _ (okM hc ((qjx c w).trans (hm _))) ?_ (by simp only [List.length_append, List.length_cons, List.length_nil] at hn ⊢; omega) h
        rw [List.all_append, ha]
        simp [qkq ih (okM hc (qjx c w)) h2]
      · cases h
    · cases h
theorem qbc4 {c : K} (hc : okK c) (h : (qeg rec c).2.2 = true) : exW (qeg rec c).2.1 = true := by
  unfold qeg at h ⊢
  split at h
  · rename_i h1
    rw [if_pos h1]
    split at h
    · rename_i h2
      rw [if_pos h2]
      exact qvf ih _ _ _ (okM hc (q8 _ _)) h
    · cases h
  · rename_i h1
    rw [if_neg h1]
    split at h
    · rename_i h2
      rw [if_pos h2]
      exact qbus hm ih _ (okM hc (q8 _ _)) h
    · rename_i h2
      rw [if_neg h2]
      split at h
      · rename_i h3
        rw [if_pos h3]
        exact qba5 hm ih _ (okM hc (q8 _ _)) h
      · rename_i h3
        rw [if_neg h3]
        split at h
        · rename_i h4
          rw [if_pos h4]
          exact q0u hm ih _ _ _ _ (okM hc (q8 _ _)) rfl rfl h
        · rename_i h4
          rw [if_neg h4]
          exact qb6a hm ih hc h
end
theorem qbdf : ∀ (f : Nat) (c : K), okK c → ∀ n, (qgf f c).2 = some n → exW n = true
  | 0, c, _ => fun n h => by cases h
  | f + 1, c, hc => fun n h => by
    rw [qgf] at h
    split at h
    · unfold toO at h
      simp only at h
      split at h
      · rename_i h2
        cases h
        exact qbc4 (qjk f) (qbdf f) (okM hc (qx c)) h2
      · cases h
    · cases h
end Go.Proofs.YtmekebfgmjaenaaGreat
