/- Texts of this proof, joined. -/
import Derived.Test.YtfjbmjplnmaclaaGreatQbl
import Derived.Test.YtfjbmjplnmaclaaGreatQbm
import Derived.Test.YtfjbmjplnmaclaaGreatQas
import Derived.Lib.Join
import Derived.Test.YtfjbmjplnmaclaaGreatQbi

/- declarations: the reference: of a text -/
set_option maxRecDepth 4000
namespace Go.Proofs.YtfjbmjplnmaclaaGreat
open Go Go.RowKit Go.V
set_option linter.unusedVariables false
set_option linter.unusedSimpArgs false
set_option linter.unusedSectionVars false

theorem qyl {p : R3} {r : K × N} (h : AlR p r) : qkc r.1 r.2 = qkc p.1 p.2.1 := by
 unfold qkc
 rw [← h.1]
 by_cases hd : (qki p.1).2 = 0
 ·rw [if_pos hd, if_pos hd]
  have hok : p.2.2 = true := by
   cases hq : p.2.2 with
   | true => rfl
   | false => exact absurd (q0u hd) (h.2.2 hq)
  rw [h.2.1 hok]
 ·rw [if_neg hd, if_neg hd]
theorem qvu {c : K} (hn : NoEnd c) : (qq c).kind ≠ 0 ↔ c.err = 0 ∧ 0 < rest c := by
 constructor
 ·intro h
  obtain ⟨h1, h2⟩ := qe5 h
  exact ⟨h1, by unfold rest; omega⟩
 ·rintro ⟨h1, h2⟩
  have hl : c.at' < c.l.length := by unfold rest at h2; omega
  rw [qm0 h1 (by omega)]
  refine hn _ ?_
  rw [List.getD_eq_getElem?_getD, List.getElem?_eq_getElem hl]
  exact List.getElem_mem hl
theorem q43 {c : K} (hn : NoEnd c) : qh1 true c = (true, (qdk c).1, (qdk c).2) := by
 unfold qh1 qdk
 by_cases hk : (qq c).kind = 0
 ·have ht : isK c [59] = false := by
   cases hi : isK c [59] with
   | false => rfl
   | true => exact absurd hk (qdu hi)
  rw [if_pos hk, qsa ht]; rfl
 ·rw [if_neg hk]
  unfold qb5
  rw [if_pos rfl]
  have hn2 := hn.mon (qk c [59])
  have := qvu hn2
  by_cases h1 : (qq (qf c [59]).1).kind = 0
  ·have h2 : ¬ ((qf c [59]).1.err = 0 ∧ 0 < rest (qf c [59]).1) := fun q => this.2 q h1
   simp only [h1, decide_true, Bool.not_true, Bool.and_false, Bool.and_assoc]
   by_cases h3 : (qf c [59]).1.err = 0
   ·have h4 : ¬ 0 < rest (qf c [59]).1 := fun q => h2 ⟨h3, q⟩
    simp [h4]
   ·simp [h3]
  ·obtain ⟨h3, h4⟩ := this.1 h1
   simp [h1, h3, h4]
def decS (f : Nat) (c : K) (acc : List N) : Bool × RL := if (qdm c).2.2 = true then rowF qdm qh1 f true (qdm c).1 (acc ++ [(qdm c).2.1]) else (true, (qdm c).1, acc, false)
theorem qbdq (f : Nat) {c : K} (acc : List N) (hn : NoEnd c) : rowF qdm qh1 (f + 1) true c acc = if (qdk c).2 = true then decS f (qdk c).1 acc else (true, (qdk c).1, acc, true) := by
 rw [rowF, q43 hn]; rfl
theorem q10 : ∀ (f g : Nat) (c : K) (acc : List N), rest c ≤ f → em c < g → NoEnd c → AlL [] (decS f c acc).2 (qfk g c acc)
 | _, 0, _, _, _, h, _ => absurd h (by omega)
 | f, g + 1, c, acc, hf, hg, hn => by
   have hal := qwp hn
   rw [qfk, decS]
   cases ho : (qdm c).2.2 with
   | false =>
     rw [if_neg noBd]
     have h3 := hal.2.2 ho
     have hm : qdk (qdm c).1 = ((qdm c).1, false) := by unfold qdk; rw [qe2 h3]; rfl
     rw [← hal.1, hm, if_neg noBd]
     exact ⟨rfl, (fun q => by cases q), fun _ => h3⟩
   | true =>
     rw [if_pos rfl, ← hal.1, ← hal.2.1 ho]
     have h1 := goes_decl.l c ho
     have h2 := (goes_decl.m c).em
     obtain ⟨f, rfl⟩ : ∃ k, f = k + 1 := ⟨f - 1, by omega⟩
     have hn1 := hn.mon (goes_decl.m c)
     rw [qbdq f _ hn1]
     cases hm : (qdk (qdm c).1).2 with
     | false =>
       rw [if_neg noBd, if_neg noBd]
       exact ⟨rfl, fun _ => by rw [List.nil_append], (fun q => by cases q)⟩
     | true =>
       rw [if_pos rfl, if_pos rfl]
       have h4 := (qja (qdm c).1).2.1
       have h5 := qnt hm
       exact q10 f g _ _ (by omega) (by omega) (hn1.mon (qja _))
theorem qbj8 {c : K} (hn : NoEnd c) (he : c.err = 0) : AlL [] (rowS qdm qh1 false c []).2 (qmy c) := by
 unfold rowS qmy
 rw [rowF]
 by_cases hr : 0 < rest c
 ·have hk := (qvu hn).2 ⟨he, hr⟩
  have hm : qh1 false c = (true, c, true) := by unfold qh1 qb5; simp [hk]
  rw [if_pos hr, hm, if_pos rfl]
  exact q10 (rest c) (em c + 2) c [] (Nat.le_refl _) (by omega) hn
 ·have hk : (qq c).kind = 0 := by
   by_cases hq : (qq c).kind = 0
   ·exact hq
   ·exact absurd ((qvu hn).1 hq).2 hr
  have hm : qh1 false c = (false, c, false) := by unfold qh1; rw [if_pos hk]
  rw [if_neg hr, hm, if_neg noBd]
  exact ⟨rfl, fun _ => rfl, (fun q => by cases q)⟩
theorem q3n {c : K} (hn : NoEnd c) (he : c.err = 0) : AlR ((qn1 c).1, (qn1 c).2.getD N0, (rowS qdm qh1 false c []).2.2.2) (qqi c) := by
 have h := qbj8 hn he
 refine ⟨h.1, fun q => ?_, h.2.2⟩
 have := h.2.1 q
 rw [List.nil_append] at this
 exact congrArg qpm this
theorem q58 (s : List UInt8) : qz Tryz.prog 11 [.str s] (resV (qml s)) := by
 have g := qq4 (qlx s).1
 have hwh := qyl (qwp (c := newK (lexV s).1) (fun t ht => qh0 ht))
 refine qj c0c (by simp) (by simp only [go_sem]) (by simp only [go_sem]) fun hw => ?_
 repeat' (first | refine vs_ ?_ | ((first | refine vr_ ?_ | refine qa (qzy s) fun _ => ?_ | refine qa (qye _) fun _ => ?_ | refine qa (qor _ g) fun _ => ?_ | refine qa (qmn _ _) fun _ => ?_ | (refine cs_ ?_ ?_ <;> intro hc) | refine cj_ ?_ | fail) <;> (try refine ev_ ?_)) | with_reducible exact ti_)
 all_goals (try rw [qdt])
 all_goals unfold qml qym decK
 all_goals (repeat' split)
 all_goals first | omega | rfl | (exfalso; omega) | (rw [hwh]; rfl) | simp_all [go_sem]
def ql8 (x : Bool × Nat × K × List N) : AF × List Ent :=
 (⟨[(2, .ptr 0 0), (8, .ptr 1 0), (9, .ptr 2 0), (10, .bool x.1)], []⟩,
   zEN :: .blk (refC x.2.2.1).cells :: .blk [.int .i64 37, .int .i64 0, .int .i64 0, .str [], accV 3 (encs x.2.2.2)] :: accE 5 (encs x.2.2.2))
end Go.Proofs.YtfjbmjplnmaclaaGreat

/- the lexer: plain laws -/
namespace Go.Proofs.YtfjbmjplnmaclaaGreat
open Go Go.RowKit Go.V
set_option linter.unusedVariables false
set_option linter.unusedSimpArgs false

theorem q5c {l : List UInt8} {n : Nat} (h : 0 < n) : (l.take n).getD 0 0 = l.getD 0 0 := by
 cases l with
 | nil => simp
 | cons c r => cases n with
   | zero => omega
   | succ n => rfl
theorem qxh {f : Int → Bool} {l : List UInt8} (hl : l ≠ []) (h : f (l.getD 0 0).toNat = true) : 0 < qbg f l := by
 cases l with
 | nil => exact absurd rfl hl
 | cons c r => rw [qrf (by simpa using h)]; omega
/-! Where it fails. -/
/-! Each word stands where it says. -/

def q91 (t : T) : Prop := (t.kind = 1 → varW t.text = true) ∧ (t.kind = 2 → conW t.text = true) ∧ (t.kind = 3 → 0 ≤ t.num)
theorem q9g {z : Int} (h0 : 0 ≤ z) (h1 : z ≤ 9223372036854775807) : IntKind.i64.wrap z = z := by
 simp [IntKind.wrap, IntKind.signed, IntKind.bits]
 omega
theorem qclt {z : Int} (h0 : 0 ≤ z) (h1 : z ≤ 255) : IntKind.u8.wrap z = z := by
 simp [IntKind.wrap, IntKind.signed, IntKind.bits]
 omega
theorem q2m : ∀ (l : List UInt8) (k : Int), digW l = true → 0 ≤ k → k ≤ 9223372036854775807 → 0 ≤ (qkw k l).1
 | [], k, _, h, _ => h
 | c :: r, k, hd, h0, h1 => by
   simp only [digW, List.all_cons, Bool.and_eq_true, qcm, decide_eq_true_eq] at hd
   have hr : digW r = true := by
    simp only [digW, qcm]; exact hd.2
   have hu : IntKind.u8.wrap ((c.toNat : Int) - 48) = (c.toNat : Int) - 48 := qclt (by omega) (by omega)
   have hv : digV c = (c.toNat : Int) - 48 := by
    unfold digV; rw [hu]; exact q9g (by omega) (by omega)
   rw [qkw]
   split
   ·exact Int.le_refl 0
   ·rename_i hlt
    have ht : topV c = (9223372036854775807 - digV c).tdiv 10 := by
     unfold topV
     have e1 : IntKind.i64.wrap (9223372036854775807 - digV c) = 9223372036854775807 - digV c := q9g (by omega) (by omega)
     have e3 : (9223372036854775807 - digV c).tdiv 10 = (9223372036854775807 - digV c) / 10 := Int.tdiv_eq_ediv_of_nonneg (by omega)
     rw [e1, e3]; exact q9g (by omega) (by omega)
    have e3 : (9223372036854775807 - digV c).tdiv 10 = (9223372036854775807 - digV c) / 10 := Int.tdiv_eq_ediv_of_nonneg (by omega)
    rw [ht, e3] at hlt
    have hn : nxtV k c = 10 * k + digV c := by
     unfold nxtV
     have e1 : IntKind.i64.wrap (10 * k) = 10 * k := q9g (by omega) (by omega)
     rw [e1]; exact q9g (by omega) (by omega)
    exact q2m r _ hr (by rw [hn]; omega) (by rw [hn]; omega)
theorem qbde {l : List UInt8} (hl : l ≠ []) (he : (qc8 l).2 = 0) : q91 (qc8 l).1 := by
 by_cases hd : qcm (l.getD 0 0).toNat = true
 ·rw [qrr hd]
  refine ⟨fun h => by simp at h, fun h => by simp at h, fun _ => ?_⟩
  have hne : l.take (qbg qcm l) ≠ [] := q0j hl (by have := qxh hl hd; omega)
  have hdg : digW (l.take (qbg qcm l)) = true := qjp qcm l
  simp only
  rw [qk4 hne hdg]
  exact q2m _ 0 hdg (by omega) (by omega)
 ·have hd : qcm (l.getD 0 0).toNat = false := by simpa using hd
  by_cases ho : (onW (l.getD 0 0).toNat && !decide (((l.getD 0 0).toNat : Int) = 39)) = true
  ·have hon : onW (l.getD 0 0).toNat = true := by simp only [Bool.and_eq_true] at ho; exact ho.1
   have h39 : ¬ ((l.getD 0 0).toNat : Int) = 39 := by simp only [Bool.and_eq_true, Bool.not_eq_true', decide_eq_false_iff_not] at ho; exact ho.2
   have hp := qxh hl hon
   have hne : l.take (qbg onW l) ≠ [] := q0j hl (by omega)
   have h0 : (l.take (qbg onW l)).getD 0 0 = l.getD 0 0 := q5c hp
   have hall : onsW (l.take (qbg onW l)) = true := qjp onW l
   rw [q2h hd ho]
   unfold qxc
   generalize l.take (qbg onW l) = w at hne h0 hall
   rw [← h0] at hd hon h39
   refine ⟨fun h => ?_, fun h => ?_, fun h => ?_⟩
   all_goals simp only [qbdx] at h ⊢
   ·split at h
    ·exact absurd h (by decide)
    ·rename_i h1
     split at h
     ·exact absurd h (by decide)
     ·rename_i h2
      split at h
      ·exact absurd h (by decide)
      ·rename_i h3
       have hg : qke (w.getD 0 0).toNat = false := by
        apply Bool.eq_false_iff.2
        intro hg
        exact h3 (by simp only [conW, hg, hall, decide_eq_true hne, Bool.and_true])
       have hs : qmb (w.getD 0 0).toNat = true := by
        simp only [onW, hg, hd, Bool.or_false, decide_eq_false h39] at hon
        exact hon
       simp only [varW, hs, hall, decide_eq_true hne, decide_eq_true h1, Bool.and_true, Bool.true_and, Bool.not_eq_true']
       simpa using h2
   ·split at h
    ·exact absurd h (by decide)
    ·split at h
     ·exact absurd h (by decide)
     ·split at h
      ·assumption
      ·exact absurd h (by decide)
   ·repeat' split at h
    all_goals exact absurd h (by decide)
  ·have ho : (onW (l.getD 0 0).toNat && !decide (((l.getD 0 0).toNat : Int) = 39)) = false := by simpa using ho
   by_cases hm : qkh l = 0
   ·rw [q26 hd ho hm] at he; simp at he
   ·rw [qul hd ho hm]
    refine ⟨fun h => by simp at h, fun h => by simp at h, fun h => by simp at h⟩
theorem q8p {s : List UInt8} : ∀ (f k : Nat), (lexF f s k).2.2 = 0 → ∀ t ∈ (lexF f s k).1, q91 t
 | 0, k, _, t, ht => by simp [lexF] at ht
 | f + 1, k, h, t, ht => by
   rw [lexF] at h ht
   by_cases h1 : k < s.length
   ·rw [if_pos h1] at h ht
    by_cases h2 : (qc8 (s.drop k)).2 = 0
    ·rw [if_pos h2] at h ht
     have hr : (lexF f s (lexK s k)).2.2 = 0 := by
      unfold appR at h
      split at h
      ·rename_i e; exact e
      ·exact h
     rw [appR, if_pos hr] at ht
     rcases List.mem_append.1 ht with ht | ht
     ·simp only [List.mem_singleton] at ht
      subst ht
      have hne : s.drop k ≠ [] := by intro e; have := congrArg List.length e; simp at this; omega
      exact qbde hne h2
     ·exact q8p f _ hr t ht
    ·rw [if_neg h2] at h; exact absurd h h2
   ·rw [if_neg h1] at ht; simp at ht
theorem q6c {s : List UInt8} : ∀ t ∈ (lexV s).1, q91 t := by
 intro t ht
 by_cases h : 1048576 < (s.length : Int)
 ·rw [qpz h] at ht; simp at ht
 ·by_cases he : (lexG s (qc4 s)).2.2 = 0
  ·rw [qrx h he] at ht
   simp only [List.mem_append, List.mem_singleton] at ht
   rcases ht with ht | rfl
   ·exact q8p _ _ he t ht
   ·exact ⟨fun h => by simp at h, fun h => by simp at h, fun h => by simp at h⟩
  ·rw [qna h he] at ht; simp at ht

inductive Stp : K → K → Prop
 | refl (c : K) : Stp c c
 | next (c : K) : Stp c (qu c)
 | fail (c : K) (e : Int) : Stp c (qdh c e)
 | nest (c : K) (n : Nat) : Stp c { c with nest := n }
 | trans {a b c : K} : Stp a b → Stp b c → Stp a c
theorem qh2 (c : K) : Stp c (qc c).1 := by
 unfold qc
 split
 ·split
  ·exact .nest c _
  ·exact .fail c 2
 ·exact .refl c
theorem qkv (c : K) : Stp c (qcj c) := by
 unfold qcj
 split
 ·split
  ·exact .nest c _
  ·exact .refl c
 ·exact .refl c
theorem qj1 (c : K) (x : List UInt8) : Stp c (qf c x).1 := by
 unfold qf
 split
 ·exact .next c
 ·exact .refl c
theorem qmx (c : K) (x : List UInt8) : Stp c (qi c x).1 := by
 unfold qi
 split
 ·exact .next c
 ·exact .fail c 5
theorem qu9 (c : K) (k : Int) : Stp c (qn c k).1 := by
 unfold qn
 split
 ·exact .next c
 ·exact .fail c 5
section
variable {rec : K → K × Option N} (hm : ∀ c, Stp c (rec c).1)
include hm
theorem qh8 (c : K) : Stp c (qbz rec c).1 := by
 unfold qbz
 split
 ·exact .next c
 ·split
  ·exact .next c
  ·split
   ·split
    ·have h1 := ((qh2 c).trans (.next _)).trans (hm _)
     split
     ·exact (h1.trans (qmx _ _)).trans (qkv _)
     ·exact h1.trans (qkv _)
    ·exact qh2 c
   ·exact .fail c 5
theorem qrq : ∀ (f : Nat) (c : K) (acc : List N), Stp c (qef rec f c acc).1
 | 0, c, acc => .refl c
 | f + 1, c, acc => by
   rw [qef]
   split
   ·split
    ·exact (qh8 hm c).trans (qrq f _ _)
    ·exact qh8 hm c
   ·exact .refl c
theorem quu (c : K) : Stp c (qch rec c).1 := by
 unfold qch
 split
 ·exact (Stp.next c).trans (qrq hm _ _ _)
 ·exact qh8 hm c
theorem qju (c : K) : Stp c (qbq rec c).1 := by
 unfold qbq
 split
 ·exact (qu9 c 2).trans (qh8 hm _)
 ·exact qu9 c 2
theorem qti (many : Bool) : ∀ (f : Nat) (c : K) (acc : List N), Stp c (qew rec many f c acc).1
 | 0, c, acc => .refl c
 | f + 1, c, acc => by
   rw [qew]
   split
   ·split
    ·exact ((qju hm c).trans (qj1 _ _)).trans (qti many f _ _)
    ·exact qju hm c
   ·exact qju hm c
theorem q6g (c : K) : Stp c (qg2 rec c).1 := by
 unfold qg2
 split
 ·exact qj1 c _
 ·exact (qj1 c _).trans (qti hm _ _ _ _)
theorem qw7 (c : K) : Stp c (qbj rec c).1 := by
 unfold qbj qgi
 have h := q6g hm c
 split
 ·split
  ·split
   ·split
    ·exact (h.trans (qmx _ _)).trans (qmx _ _)
    ·exact h.trans (qmx _ _)
   ·exact h.trans (qmx _ _)
  ·exact h
 ·exact .refl c
end
theorem qic : ∀ (f : Nat) (c : K), Stp c (qb3 f c).1
 | 0, c => .refl c
 | f + 1, c => by
   have hr := (qh2 c).trans (quu (qic f) (qc c).1)
   rw [qb3]
   split
   ·split
    ·split
     ·exact ((hr.trans (qj1 _ _)).trans (qic f _)).trans (qkv _)
     ·exact hr.trans (qkv _)
    ·exact hr.trans (qkv _)
   ·exact qh2 c
theorem Stp.words {c c' : K} (h : Stp c c') : c'.l = c.l ∧ c'.ep = c.ep := by
 induction h with
 | refl c => exact ⟨rfl, rfl⟩
 | next c =>
   unfold qu
   split
   ·split <;> exact ⟨rfl, rfl⟩
   ·exact ⟨rfl, rfl⟩
 | fail c e => unfold qdh; split <;> exact ⟨rfl, rfl⟩
 | nest c n => exact ⟨rfl, rfl⟩
 | trans _ _ h1 h2 => exact ⟨h2.1.trans h1.1, h2.2.trans h1.2⟩
def okK (c : K) : Prop := ∀ t ∈ c.l, q91 t
theorem Stp.okK {c c' : K} (h : Stp c c') (hc : okK c) : okK c' := by
 unfold Go.Proofs.YtfjbmjplnmaclaaGreat.okK at *
 rw [h.words.1]; exact hc
theorem qf6 {c : K} (h : okK c) : q91 (qq c) := by
 unfold qq
 split
 ·split
  ·exact h _ (q3a (by assumption))
  ·exact ⟨fun h => by simp at h, fun h => by simp at h, fun h => by simp at h⟩
 ·exact ⟨fun h => by simp [T0] at h, fun h => by simp [T0] at h, fun h => by simp [T0] at h⟩
theorem qbmg {t : List UInt8} {p : Int} {ks : List N} (h : conW t = true) (hk : ks.all tyW = true) : tyW (.mk 2 p 0 t ks) = true := by
 rw [tyW, if_neg (by decide), if_pos ⟨rfl, rfl⟩, if_neg (qcia h), h, q2p, hk]; rfl
section
variable {rec : K → K × Option N} (hm : ∀ c, Stp c (rec c).1) (ih : ∀ c, okK c → ∀ n, (rec c).2 = some n → tyW n = true)
include hm ih
omit hm in
theorem qwj {c : K} (hc : okK c) : ∀ n, (qbz rec c).2 = some n → tyW n = true := by
 intro n h
 obtain ⟨h1, h2, h3⟩ := qf6 hc
 unfold qbz at h
 split at h
 ·rename_i hk; cases h; rw [qie, tyW, if_pos rfl, h1 hk]; rfl
 ·split at h
  ·rename_i hk; cases h; exact qbmg (h2 hk) rfl
  ·split at h
   ·split at h
    ·split at h
     ·simp only at h
      split at h
      ·exact ih _ (((qh2 c).trans (.next _)).okK hc) n h
      ·cases h
     ·cases h
    ·cases h
   ·cases h
theorem q9a : ∀ (f : Nat) (c : K) (acc : List N), okK c → acc.all tyW = true → ∀ l, (qef rec f c acc).2 = some l → l.all tyW = true
 | 0, c, acc, hc, _ => fun n h => by cases h
 | f + 1, c, acc, hc, ha => fun l h => by
   rw [qef] at h
   split at h
   ·split at h
    ·rename_i hs
     obtain ⟨n, hn⟩ := Option.isSome_iff_exists.1 hs
     refine q9a f _ _ ((qh8 hm c).okK hc) ?_ l h
     rw [List.all_append, ha, hn]
     simp [qwj ih hc n hn]
    ·cases h
   ·cases h; exact ha
theorem qchg {c : K} (hc : okK c) : ∀ n, (qch rec c).2 = some n → tyW n = true := by
 intro n h
 unfold qch at h
 split at h
 ·rename_i hk
  obtain ⟨l, hl, rfl⟩ := Option.map_eq_some_iff.1 h
  exact qbmg ((qf6 hc).2.1 hk) (q9a hm ih _ _ _ ((Stp.next c).okK hc) rfl l hl)
 ·exact qwj ih hc n h
omit hm in
theorem qbwe {c : K} (hc : okK c) : ∀ n, (qbq rec c).2 = some n → prW n = true := by
 intro n h
 unfold qbq at h
 split at h
 ·rename_i hk
  obtain ⟨m, hmm, rfl⟩ := Option.map_eq_some_iff.1 h
  obtain ⟨e1, e2⟩ := qhm hk
  have h2 := qwj ih ((qu9 c 2).okK hc) m hmm
  rw [(qlk hk).2]
  simp [prW, qr6, N.kind, N.num, N.text, N.kids, (qf6 hc).2.1 e2, h2]
 ·cases h
theorem qy6 (many : Bool) : ∀ (f : Nat) (c : K) (acc : List N), okK c → acc.all prW = true → ∀ l, (qew rec many f c acc).2 = some l → l.all prW = true
 | 0, c, acc, hc, _ => fun n h => by cases h
 | f + 1, c, acc, hc, ha => fun l h => by
   rw [qew] at h
   split at h
   ·rename_i hs
    obtain ⟨n, hn⟩ := Option.isSome_iff_exists.1 hs
    have hall : (acc ++ [(qbq rec c).2.getD N0]).all prW = true := by
     rw [List.all_append, ha, hn]
     simp [qbwe ih hc n hn]
    split at h
    ·exact qy6 many f _ _ (((qju hm c).trans (qj1 _ _)).okK hc) hall l h
    ·cases h; exact hall
   ·cases h
theorem q2a {c : K} (hc : okK c) : ∀ l, (qbj rec c).2 = some l → l.all prW = true := by
 intro l h
 unfold qbj at h
 split at h
 ·have h := qji h
  unfold qg2 at h
  split at h
  ·cases h; rfl
  ·exact qy6 hm ih _ _ _ _ ((qj1 c _).okK hc) rfl l h
 ·simp only at h
  split at h
  ·cases h
  ·cases h; rfl
end
theorem q6t : ∀ (f : Nat) (c : K), okK c → ∀ n, (qb3 f c).2 = some n → tyW n = true
 | 0, c, hc => fun n h => by cases h
 | f + 1, c, hc => fun n h => by
   have ih := q6t f
   have hr := (qh2 c).trans (quu (qic f) (qc c).1)
   rw [qb3] at h
   split at h
   ·split at h
    ·rename_i hs
     obtain ⟨m, hm⟩ := Option.isSome_iff_exists.1 hs
     have h1 := qchg (qic f) ih ((qh2 c).okK hc) m hm
     split at h
     ·obtain ⟨q, hq, rfl⟩ := Option.map_eq_some_iff.1 h
      have h2 := ih _ ((hr.trans (qj1 _ _)).okK hc) q hq
      rw [hm]
      rw [qi2, tyW, if_neg (by decide), if_pos ⟨rfl, rfl⟩, if_pos rfl, tysW, tysW, tysW]
      simp [h1, h2]
     ·rw [hm] at h; cases h; exact h1
    ·cases h
   ·cases h
theorem qbuc {f : Nat} {c : K} (hc : okK c) : ∀ n, (qfu f c).2 = some n → quW n = true := by
 intro n h
 unfold qfu at h
 split at h
 ·rename_i hs
  obtain ⟨l, hl⟩ := Option.isSome_iff_exists.1 hs
  obtain ⟨q, hq, rfl⟩ := Option.map_eq_some_iff.1 h
  have h1 := q2a (qic f) (q6t f) hc l hl
  have h2 := q6t f _ ((qw7 (qic f) c).okK hc) q hq
  rw [hl]
  have hlen : (((l ++ [q]).length : Int) - 1).toNat = l.length := by simp
  simp only [quW, qoj, qsh, N.kind, N.num, N.text, N.kids, Option.getD_some, hlen]
  simp [h1, h2]
 ·cases h
end Go.Proofs.YtfjbmjplnmaclaaGreat
