/- Texts of this proof, joined. -/
import Derived.Test.YtlmcofjcpadmiaaGreatBba
import Derived.Test.YtlmcofjcpadmiaaGreatBbb
import Derived.Test.YtlmcofjcpadmiaaGreatBap

/- patterns: the size of what is read -/
namespace Go.Proofs.YtlmcofjcpadmiaaGreat
open Go Go.RowKit Go.V
set_option linter.unusedVariables false
set_option linter.unusedSimpArgs false

theorem qbfc {c : K} {n : N} (h : qib c = some n) : sz n = 1 := by
 unfold qib at h
 repeat' split at h
 all_goals first | (cases h; rw [qes]; rfl) | cases h
section
variable {rec : K → K × Option N} (ih : ∀ c n, (rec c).2 = some n → sz n + rest (rec c).1 ≤ rest c)
include ih
theorem qzz {c : K} {n : N} (h : (qbd rec c).2 = some n) : sz n + rest (qbd rec c).1 ≤ rest c := by
 unfold qbd at h ⊢
 split at h
 ·rename_i h1
  rw [if_pos h1]
  have := q9 (qsl h)
  have := qbfc h
  simp only; omega
 ·rename_i h1
  rw [if_neg h1]
  split at h
  ·rename_i h2
   rw [if_pos h2]
   split at h
   ·rename_i h3
    rw [if_pos h3]
    have hp := q9 (c := (qd c).1) (by rw [qde h3]; exact qdf h2)
    have h0 := (qv c).2.1
    split at h
    ·rename_i h4
     rw [if_pos h4]
     split at h
     ·rename_i h5
      rw [if_pos h5]
      have h6 := ih _ _ h
      have h7 := (qn (rec (qj (qd c).1)).1 [41]).2.1
      have h8 := (qbn (qx (rec (qj (qd c).1)).1 [41]).1).2.1
      simp only at h6 ⊢; omega
     ·cases h
    ·cases h
   ·cases h
  ·cases h
theorem q3i : ∀ (f : Nat) (c : K) (acc l : List N), (qgj rec f c acc).2 = some l → szs l + rest (qgj rec f c acc).1 ≤ szs acc + rest c
 | 0, c, acc, l => fun h => by cases h
 | f + 1, c, acc, l => fun h => by
   rw [qgj] at h ⊢
   split at h
   ·rename_i h1
    rw [if_pos h1]
    split at h
    ·rename_i h2
     rw [if_pos h2]
     obtain ⟨n, hn⟩ := Option.isSome_iff_exists.1 h2
     have h3 := q3i f _ _ _ h
     have h4 := qzz ih hn
     rw [qeo, hn] at h3
     simp only [Option.getD_some, szs] at h3
     rw [hn]
     simp only [Option.getD_some]
     omega
    ·cases h
   ·rename_i h1
    rw [if_neg h1]
    cases h
    exact Nat.le_refl _
end
theorem qbw3 : ∀ (f : Nat) (c : K) (n : N), (qbz f c).2 = some n → sz n + rest (qbz f c).1 ≤ rest c
 | 0, _, _ => fun h => by cases h
 | f + 1, c, n => fun h => by
   rw [qbz] at h ⊢
   have h0 := (qv c).2.1
   split at h
   ·rename_i h1
    rw [if_pos h1]
    split at h
    ·rename_i h2
     rw [if_pos h2]
     have hr := q9 (c := (qd c).1) (by omega)
     obtain ⟨l, hl, rfl⟩ := Option.map_eq_some_iff.1 h
     have h3 := q3i (qbw3 f) _ _ _ _ hl
     have h4 := (qbn (qgj (qbz f) (rest (qd c).1 + 1) (qj (qd c).1) []).1).2.1
     rw [qes]
     simp only [N.kids, szs] at h3 ⊢
     omega
    ·rename_i h2
     rw [if_neg h2]
     have h3 := qzz (qbw3 f) h
     have h4 := (qbn (qbd (qbz f) (qd c).1).1).2.1
     simp only
     omega
   ·cases h
set_option maxRecDepth 4000

theorem qu8 {f : Nat} (ih : ∀ c, c.good → rest c < f → qbq Tryz.prog 58 (curE c) (curE (qet f c).1) [.ptr 0 0] (resP (qet f c).2)) (c : K) (hg : c.good) (hr : rest c < f + 1) :
 qbq Tryz.prog 58 (curE c) (curE (qet (f + 1) c).1) [.ptr 0 0] (resP (qet (f + 1) c).2) := by
 have hm := ql9 f
 have g1 : (qd c).1.good := (qv c).1 hg
 have hr1 : rest (qd c).1 ≤ f := by have := (qv c).2.1; omega
 have ho := q5t hm ih _ g1 hr1
 have g2 := (ql4 hm (qd c).1).1 g1
 refine qk c0db 1 (by simp) (by simp) ?_
 rw [qet]
 generalize qdx (qet f) (qd c).1 = r at *
 obtain ⟨d, n, ok⟩ := r
 simp only [toO] at ho g2 ⊢
 by_cases hk : (qd c).2 = true
 ·rw [if_pos hk]
  cases ok with
  | false =>
    repeat' (first | refine vs_ ?_ | ((first | refine vr_ ?_ | fail) <;> (try simp only [hk, go_sem, ↓reduceIte])) | ((first | (refine cs_ ?_ ?_ <;> intro hc) | refine cj_ ?_ | fail | refine qf6 ?_ | refine qn9 ho rfl ?_ | refine qd7 g2.2.2 ?_) <;> (try refine ev_ ?_)) | with_reducible exact ti_)
    all_goals first | (rw [qdg]; done) | (rw [qdg]; rfl) | (rw [qdg]; exact ⟨rfl, rfl⟩)
  | true =>
    repeat' (first | refine vs_ ?_ | ((first | refine vr_ ?_ | fail) <;> (try simp only [hk, go_sem, ↓reduceIte])) | ((first | (refine cs_ ?_ ?_ <;> intro hc) | refine cj_ ?_ | fail | refine qf6 ?_ | refine qn9 ho rfl ?_ | refine qd7 g2.2.2 ?_) <;> (try refine ev_ ?_)) | with_reducible exact ti_)
    all_goals first | rfl | exact ⟨rfl, rfl⟩
 ·rw [if_neg hk]
  repeat' (first | refine vs_ ?_ | ((first | refine vr_ ?_ | fail) <;> (try simp only [hk, go_sem, ↓reduceIte])) | ((first | (refine cs_ ?_ ?_ <;> intro hc) | refine cj_ ?_ | fail | refine qf6 ?_) <;> (try refine ev_ ?_)) | with_reducible exact ti_)
  all_goals first | (rw [qdg]; done) | (rw [qdg]; rfl) | (rw [qdg]; exact ⟨rfl, rfl⟩)
theorem qb1j (f : Nat) : ∀ c : K, c.good → rest c < f → qbq Tryz.prog 58 (curE c) (curE (qet f c).1) [.ptr 0 0] (resP (qet f c).2) := by
 induction f with
 | zero => exact fun c _ h => absurd h (by omega)
 | succ f ih => exact qu8 ih

/-! The size of what is read. -/
theorem qsy {k p m : Int} {t : List UInt8} {l : List N} : sz (.mk k p m t l) = szs l + 1 := by rw [qes]; rfl
theorem qbbi {c : K} {n : N} (h : qgg c = some n) : sz n = 1 := by
 unfold qgg qiu at h
 repeat' split at h
 all_goals first | (cases h; rw [qes]; rfl) | cases h
def SzO (c : K) (r : K × Option N) : Prop := ∀ n, r.2 = some n → sz n + 1 + 2 * rest r.1 ≤ 2 * rest c
def SzB (c : K) (r : R3) : Prop := r.2.2 = true → sz r.2.1 + 1 + 2 * rest r.1 ≤ 2 * rest c
theorem qfx {c : K} {r : K × Option N} (h : SzO c r) (hs : r.2.isSome = true) : sz (r.2.getD N0) + 1 + 2 * rest r.1 ≤ 2 * rest c := by
 obtain ⟨n, hn⟩ := Option.isSome_iff_exists.1 hs
 have := h n hn
 rw [hn]
 exact this
section
variable {rec : K → K × Option N} (ih : ∀ c, SzO c (rec c))
include ih
theorem qwo (c : K) : SzO c (qs rec c) := by
 intro n h
 unfold qs at h ⊢
 split at h
 ·rename_i h1
  rw [if_pos h1]
  have := q9 (qoj h1)
  have := qbbi h
  simp only; omega
 ·rename_i h1
  rw [if_neg h1]
  split at h
  ·rename_i h2
   rw [if_pos h2]
   split at h
   ·rename_i h3
    rw [if_pos h3]
    have hp := q9 (c := (qd c).1) (by rw [qde h3]; exact qdf h2)
    have h0 := (qv c).2.1
    split at h
    ·rename_i h4
     rw [if_pos h4]
     split at h
     ·rename_i h5
      rw [if_pos h5]
      have h6 := ih _ _ h
      have h7 := (qn (rec (qj (qd c).1)).1 [41]).2.1
      have h8 := (qbn (qx (rec (qj (qd c).1)).1 [41]).1).2.1
      simp only at h6 ⊢; omega
     ·cases h
    ·cases h
   ·cases h
  ·cases h
theorem qvx : ∀ (f : Nat) (c d : K) (n : N), sz n + 1 + 2 * rest d ≤ 2 * rest c → SzB c (qd3 rec f d n)
 | 0, c, d, n => fun h0 h => by cases h
 | f + 1, c, d, n => fun h0 h => by
   rw [qd3] at h ⊢
   split at h
   ·rename_i h1
    rw [if_pos h1]
    split at h
    ·rename_i h2
     rw [if_pos h2]
     have h3 := qfx (qwo ih d) h2
     refine qvx f c _ _ ?_ h
     rw [appN, qsy]
     simp only [szs]; omega
    ·cases h
   ·rename_i h1
    rw [if_neg h1]
    exact h0
theorem qbku (c : K) : SzB c (qgb rec c) := by
 intro h
 unfold qgb at h ⊢
 split at h
 ·rename_i h1
  rw [if_pos h1]
  exact qvx ih _ _ _ _ (qfx (qwo ih c) h1) h
 ·cases h
theorem qpq (x : List UInt8) : ∀ (f : Nat) (c : K), SzB c (qb8 rec x f c)
 | 0, c => fun h => by cases h
 | f + 1, c => fun h => by
   rw [qb8] at h ⊢
   split at h
   ·rename_i h1
    rw [if_pos h1]
    have h2 := qpq x f (qj c) h
    have h3 := q9 (c := c) (by omega)
    simp only
    rw [lamN, qsy]
    simp only [szs]; omega
   ·rename_i h1
    rw [if_neg h1]
    split at h
    ·rename_i h2
     rw [if_pos h2]
     have h3 := qfx (ih (qx c x).1) h
     have h4 := (qn c x).2.1
     simp only [ofO]; omega
    ·cases h
theorem q8m (c : K) : SzO c (qby rec c) := by
 intro n h
 unfold qby at h ⊢
 split at h
 ·rename_i h1
  rw [if_pos h1]
  have h2 := qr4 h1
  split at h
  ·rename_i h3
   rw [if_pos h3]
   obtain ⟨m, hm, rfl⟩ := Option.map_eq_some_iff.1 h
   have h4 := qpj hm
   have h5 := qc8 h3
   have h6 := (qgz (rest (qm (kindK c 1).1 [58, 58]).1 + 2) (qm (kindK c 1).1 [58, 58]).1).2.1
   rw [qy3, qsy]
   simp only [szs]; omega
  ·rename_i h3
   rw [if_neg h3]
   obtain ⟨m, hm, rfl⟩ := Option.map_eq_some_iff.1 h
   unfold toO at hm
   simp only at hm
   split at hm
   ·rename_i h4
    cases hm
    have h5 := qpq ih _ _ _ h4
    rw [qy3, qsy]
    simp only [szs]; omega
   ·cases hm
 ·cases h
omit ih in
theorem qrs {rd : K → R3} (hd : ∀ c, SzB c (rd c)) : ∀ (f : Nat) (c d : K) (acc : List N), szs acc + 2 * rest d ≤ 2 * rest c → (qbr rd f d acc).2.2 = true → szs (qbr rd f d acc).2.1 + 2 * rest (qbr rd f d acc).1 ≤ 2 * rest c
 | 0, c, d, acc => fun h0 h => by cases h
 | f + 1, c, d, acc => fun h0 h => by
   rw [qbr] at h ⊢
   split at h
   ·rename_i h1
    rw [if_pos h1]
    have h2 := hd d h1
    have h3 := (q8 (rd d).1 [59]).2.1
    split at h
    ·rename_i h4
     rw [if_pos h4]
     refine qrs hd f c _ _ ?_ h
     rw [qeo]
     simp only [szs]; omega
    ·rename_i h4
     rw [if_neg h4]
     have h5 := (qn (qm (rd d).1 [59]).1 [125]).2.1
     simp only
     rw [qeo]
     simp only [szs]; omega
   ·cases h
omit ih in
theorem qwx {rd : K → R3} (hd : ∀ c, SzB c (rd c)) (c : K) (h : (q7 rd c).2.2 = true) : szs (q7 rd c).2.1 + 2 * rest (q7 rd c).1 ≤ 2 * rest c := by
 unfold q7 at h ⊢
 split at h
 ·rename_i h1
  rw [if_pos h1]
  have h2 := (qn c [123]).2.1
  exact qrs hd _ _ _ _ (by simp only [szs]; omega) h
 ·cases h
theorem qbg5 (p : Int) (c : K) : SzB c (qjs rec p c) := by
 intro h
 unfold qjs letB letC at h ⊢
 have hl := qwx (rd := fun c => ofO (qby rec c)) (fun c hs => qfx (q8m ih c) hs) c
 generalize q7 (fun c => ofO (qby rec c)) c = L at *
 split at h
 ·rename_i h1
  rw [if_pos h1]
  have hl := hl h1
  split at h
  ·rename_i h2
   rw [if_pos h2]
   have h3 := qfx (ih (qx L.1 [105, 110]).1) h
   have h4 := qfl h2
   simp only
   rw [qsy, qeo]
   simp only [szs]; omega
  ·cases h
 ·cases h
theorem qbfs (c : K) : SzB c (qd1 rec c) := by
 intro h
 unfold qd1 altB altC at h ⊢
 have hp := qbw3 (rest c + 2) c
 generalize qbz (rest c + 2) c = r at *
 split at h
 ·rename_i h1
  rw [if_pos h1]
  obtain ⟨n, hn⟩ := Option.isSome_iff_exists.1 h1
  have hp := hp n hn
  split at h
  ·rename_i h2
   rw [if_pos h2]
   have h3 := qfx (ih (qx r.1 [45, 62]).1) h
   have h4 := qfl h2
   simp only
   rw [altN, qsy, hn]
   simp only [szs, Option.getD_some]; omega
  ·cases h
 ·cases h
theorem qbbm (p : Int) (c : K) : SzB c (qgo rec p c) := by
 intro h
 unfold qgo qz0 q15 at h ⊢
 split at h
 ·rename_i h1
  rw [if_pos h1]
  have h2 := qfx (ih c) h1
  split at h
  ·rename_i h3
   rw [if_pos h3]
   have h4 := qwx (qbfs ih) _ h
   have h5 := qfl h3
   simp only
   rw [qsy]
   simp only [szs]; omega
  ·cases h
 ·cases h
theorem q3f (p : Int) : ∀ (l : List (List UInt8)) (c d : K) (acc : List N), szs acc + 2 * rest d ≤ 2 * rest c → (qdu rec p l d acc).2.2 = true → sz (qdu rec p l d acc).2.1 + 2 * rest (qdu rec p l d acc).1 ≤ 2 * rest c + 1
 | [], c, d, acc => fun h0 h => by rw [qdu, qsy]; simp only; omega
 | w :: r, c, d, acc => fun h0 h => by
   rw [qdu] at h ⊢
   split at h
   ·rename_i h1
    rw [if_pos h1]
    have h2 := (qlh d w).2.1
    split at h
    ·rename_i h3
     rw [if_pos h3]
     have h4 := qfx (ih (ifsK d w).1) h3
     refine q3f p r c _ _ ?_ h
     rw [qeo]
     simp only [szs]; omega
    ·cases h
   ·cases h
theorem q55 (c : K) : SzB c (qdx rec c) := by
 intro h
 unfold qdx at h ⊢
 split at h
 ·rename_i h1
  rw [if_pos h1]
  have h0 := qc8 h1
  split at h
  ·rename_i h2
   rw [if_pos h2]
   have := qpq ih _ _ _ h
   omega
  ·cases h
 ·rename_i h1
  rw [if_neg h1]
  split at h
  ·rename_i h2
   rw [if_pos h2]
   have h0 := qc8 h2
   have := qbg5 ih _ _ h
   omega
  ·rename_i h2
   rw [if_neg h2]
   split at h
   ·rename_i h3
    rw [if_pos h3]
    have h0 := qc8 h3
    have := qbbm ih _ _ h
    omega
   ·rename_i h3
    rw [if_neg h3]
    split at h
    ·rename_i h4
     rw [if_pos h4]
     have h0 := qc8 h4
     have := q3f ih _ _ _ _ _ (by simp only [szs]; exact Nat.le_of_eq (Nat.zero_add _)) h
     omega
    ·rename_i h4
     rw [if_neg h4]
     exact qbku ih c h
end
theorem qbc1 : ∀ (f : Nat) (c : K), SzO c (qet f c)
 | 0, c => fun n h => by cases h
 | f + 1, c => fun n h => by
   rw [qet] at h ⊢
   split at h
   ·rename_i h1
    rw [if_pos h1]
    unfold toO at h
    simp only at h
    split at h
    ·rename_i h2
     cases h
     have h3 := q55 (qbc1 f) _ h2
     have h4 := (qv c).2.1
     have h5 := (qbn (qdx (qet f) (qd c).1).1).2.1
     simp only; omega
    ·cases h
   ·cases h

def expV (s : List UInt8) : N × Int × Int := qk4 (fun c => qet (rest c + 2) c) s
def expK (k : Nat) (s : List UInt8) : N × Int × Int := qk4 (fun c => qet (rest c + k) c) s
theorem qyf (k : Nat) (hk : 2 ≤ k) (s : List UInt8) (hs : s.length ≤ 400000) : ql Tryz.prog 27 [.str s] (resV (expK k s)) := by
 have g := qni (qfz s).1
 have g2 : (qet (rest (newK (lexV s).1) + k) (newK (lexV s).1)).1.good := (ql9 _ _).1 g
 have hsz : sz ((qet (rest (newK (lexV s).1) + k) (newK (lexV s).1)).2.getD N0) ≤ 1000000 := by
  cases ho : (qet (rest (newK (lexV s).1) + k) (newK (lexV s).1)).2 with
  | none => rw [Option.getD_none, qes]; simp [N0, N.kids, szs]
  | some n =>
    have h1 := qbc1 _ _ _ ho
    have h2 := qh7 (lexV s).1
    have h3 := (qfz s).2
    have h4 : rest (newK (lexV s).1) = (qe7 (lexV s).1).length := rfl
    simp only [Option.getD_some]
    omega
 have hdp := qkc hsz
 refine qg c0dc (by simp) (by simp only [go_sem]) (by simp only [go_sem]) fun hw => ?_
 repeat' (first | refine vs_ ?_ | ((first | refine vr_ ?_ | refine qa (qga s) fun _ => ?_ | refine qp7 (qqf _ (qfz s).1) (qo _ _) (by simp only [go_sem]) ?_ | refine qjh 1 (qb1j (rest (newK (lexV s).1) + k) _ g (by omega)) (by rfl) (qo _ _) (qo _ _) (by rfl) (qq4 _ _) (by rfl) fun _ => ?_ | refine qjh 1 (qln _ g2.ok) (by rfl) (qo _ _) (qo _ _) (by rfl) (by rfl) (by rfl) fun _ => ?_ | refine qa (qin (qj5 _) (by rw [hdp])) fun _ => ?_ | refine qe (qga s) ?_ | refine qe (qin (qj5 _) (by rw [hdp])) ?_ | (refine cs_ ?_ ?_ <;> intro hc) | refine cj_ ?_ | fail) <;> (try refine ev_ ?_)) | with_reducible exact ti_)
 all_goals (try rw [qdg])
 all_goals unfold expK qk4 qtl
 all_goals (repeat' split)
 all_goals first | omega | rfl | (exfalso; omega) | simp_all [go_sem]
theorem q0x (s : List UInt8) (hs : s.length ≤ 400000) : ql Tryz.prog 27 [.str s] (resV (expV s)) := qyf 2 (by decide) s hs

def bare (t : T) : T := ⟨t.kind, 0, t.num, t.text⟩
def remT (c : K) : List T := c.l.drop c.at'
def Stop (tl : List T) : Prop := tl = [] ∨ ∃ t, tl = [t] ∧ t.kind = 5 ∧ (t.text = [41] ∨ t.text = [125] ∨ t.text = [59])
def NS (a b : N) : Prop := qq a = qq b
section
variable {δ : Int} {tl : List T} {c c' : K}
theorem q9n (c : K) : (remT c).length = rest c := by simp [remT, rest]
theorem qr9 {t : T} {r : List T} (h : remT c = t :: r) (he : c.err = 0) : qt c = t ∧ c.at' < c.l.length := by
 have hl : c.at' < c.l.length := by
  have := congrArg List.length h
  simp [remT] at this; omega
 have h1 : c.l.getD c.at' T0 = t := by
  have := qbq5 hl
  unfold remT at h
  rw [h] at this
  exact (List.cons.inj this).1.symm
 rw [qqx he (by omega)]
 exact ⟨h1, hl⟩
theorem qba3 (h : remT c = []) (he : c.err = 0) : qt c = ⟨0, c.ep, 0, []⟩ := by
 refine qnd he ?_
 have := congrArg List.length h
 simp [remT] at this; omega
theorem q2y {t : T} {r : List T} (h : remT c = t :: r) (he : c.err = 0) : remT (qj c) = r ∧ (qj c).err = 0 ∧ (qj c).nest = c.nest := by
 obtain ⟨_, hl⟩ := qr9 h he
 rw [qqu he (by omega)]
 refine ⟨?_, he, rfl⟩
 have := qbq5 hl
 unfold remT at h
 rw [h] at this
 exact (List.cons.inj this).2.symm
theorem qny {t t' : T} (h : bare t = bare t') : t.kind = t'.kind := show (bare t).kind = (bare t').kind from congrArg T.kind h
theorem q6o {t t' : T} (h : bare t = bare t') : t.num = t'.num := show (bare t).num = (bare t').num from congrArg T.num h
theorem qng {t t' : T} (h : bare t = bare t') : t.text = t'.text := show (bare t).text = (bare t').text from congrArg T.text h
theorem q2u {t t' : T} (h : bare t = bare t') (x : List UInt8) : qbx t x = qbx t' x := by unfold qbx; rw [qny h, qng h]
theorem qy8 {t t' : T} (h : bare t = bare t') (x : List (List UInt8)) : qbv t x = qbv t' x := by unfold qbv; rw [qny h, qng h]
end
end Go.Proofs.YtlmcofjcpadmiaaGreat
