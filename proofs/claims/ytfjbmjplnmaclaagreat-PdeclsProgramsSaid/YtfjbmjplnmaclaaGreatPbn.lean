/- Texts of this proof, joined. -/
import Derived.Test.YtfjbmjplnmaclaaGreatPbl
import Derived.Test.YtfjbmjplnmaclaaGreatPbm
import Derived.Test.YtfjbmjplnmaclaaGreatPas
import Derived.Lib.Join
import Derived.Test.YtfjbmjplnmaclaaGreatPbi

/- declarations: the reference: of a text -/
set_option maxRecDepth 4000
namespace Go.Proofs.YtfjbmjplnmaclaaGreat
open Go Go.RowKit Go.V
set_option linter.unusedVariables false
set_option linter.unusedSimpArgs false
set_option linter.unusedSectionVars false

theorem qbak {p : R3} {r : K × N} (h : AlR p r) : qko r.1 r.2 = qko p.1 p.2.1 := by
 unfold qko
 rw [← h.1]
 by_cases hd : (qkh p.1).2 = 0
 ·rw [if_pos hd, if_pos hd]
  have hok : p.2.2 = true := by
   cases hq : p.2.2 with
   | true => rfl
   | false => exact absurd (qbax hd) (h.2.2 hq)
  rw [h.2.1 hok]
 ·rw [if_neg hd, if_neg hd]
theorem qvv {c : K} (hn : NoEnd c) : (qq c).kind ≠ 0 ↔ c.err = 0 ∧ 0 < rest c := by
 constructor
 ·intro h
  obtain ⟨h1, h2⟩ := qe7 h
  exact ⟨h1, by unfold rest; omega⟩
 ·rintro ⟨h1, h2⟩
  have hl : c.at' < c.l.length := by unfold rest at h2; omega
  rw [qny h1 (by omega)]
  refine hn _ ?_
  rw [List.getD_eq_getElem?_getD, List.getElem?_eq_getElem hl]
  exact List.getElem_mem hl
theorem q5g {c : K} (hn : NoEnd c) : qh1 true c = (true, (qdj c).1, (qdj c).2) := by
 unfold qh1 qdj
 by_cases hk : (qq c).kind = 0
 ·have ht : isK c [59] = false := by
   cases hi : isK c [59] with
   | false => rfl
   | true => exact absurd hk (qdt hi)
  rw [if_pos hk, qrf ht]; rfl
 ·rw [if_neg hk]
  unfold qb5
  rw [if_pos rfl]
  have hn2 := hn.mon (qk c [59])
  have := qvv hn2
  by_cases h1 : (qq (qf c [59]).1).kind = 0
  ·have h2 : ¬ ((qf c [59]).1.err = 0 ∧ 0 < rest (qf c [59]).1) := fun q => this.2 q h1
   simp only [h1, decide_true, Bool.not_true, Bool.and_false, Bool.and_assoc]
   by_cases h3 : (qf c [59]).1.err = 0
   ·have h4 : ¬ 0 < rest (qf c [59]).1 := fun q => h2 ⟨h3, q⟩
    simp [h4]
   ·simp [h3]
  ·obtain ⟨h3, h4⟩ := this.1 h1
   simp [h1, h3, h4]
def decS (f : Nat) (c : K) (acc : List N) : Bool × RL := if (qdv c).2.2 = true then rowF qdv qh1 f true (qdv c).1 (acc ++ [(qdv c).2.1]) else (true, (qdv c).1, acc, false)
theorem qbih (f : Nat) {c : K} (acc : List N) (hn : NoEnd c) : rowF qdv qh1 (f + 1) true c acc = if (qdj c).2 = true then decS f (qdj c).1 acc else (true, (qdj c).1, acc, true) := by
 rw [rowF, q5g hn]; rfl
theorem q12 : ∀ (f g : Nat) (c : K) (acc : List N), rest c ≤ f → em c < g → NoEnd c → AlL [] (decS f c acc).2 (qfo g c acc)
 | _, 0, _, _, _, h, _ => absurd h (by omega)
 | f, g + 1, c, acc, hf, hg, hn => by
   have hal := qbdz hn
   rw [qfo, decS]
   cases ho : (qdv c).2.2 with
   | false =>
     rw [if_neg noBd]
     have h3 := hal.2.2 ho
     have hm : qdj (qdv c).1 = ((qdv c).1, false) := by unfold qdj; rw [qe2 h3]; rfl
     rw [← hal.1, hm, if_neg noBd]
     exact ⟨rfl, (fun q => by cases q), fun _ => h3⟩
   | true =>
     rw [if_pos rfl, ← hal.1, ← hal.2.1 ho]
     have h1 := goes_decl.l c ho
     have h2 := (goes_decl.m c).em
     obtain ⟨f, rfl⟩ : ∃ k, f = k + 1 := ⟨f - 1, by omega⟩
     have hn1 := hn.mon (goes_decl.m c)
     rw [qbih f _ hn1]
     cases hm : (qdj (qdv c).1).2 with
     | false =>
       rw [if_neg noBd, if_neg noBd]
       exact ⟨rfl, fun _ => by rw [List.nil_append], (fun q => by cases q)⟩
     | true =>
       rw [if_pos rfl, if_pos rfl]
       have h4 := (qjc (qdv c).1).2.1
       have h5 := qnh hm
       exact q12 f g _ _ (by omega) (by omega) (hn1.mon (qjc _))
theorem qbip {c : K} (hn : NoEnd c) (he : c.err = 0) : AlL [] (rowS qdv qh1 false c []).2 (qm1 c) := by
 unfold rowS qm1
 rw [rowF]
 by_cases hr : 0 < rest c
 ·have hk := (qvv hn).2 ⟨he, hr⟩
  have hm : qh1 false c = (true, c, true) := by unfold qh1 qb5; simp [hk]
  rw [if_pos hr, hm, if_pos rfl]
  exact q12 (rest c) (em c + 2) c [] (Nat.le_refl _) (by omega) hn
 ·have hk : (qq c).kind = 0 := by
   by_cases hq : (qq c).kind = 0
   ·exact hq
   ·exact absurd ((qvv hn).1 hq).2 hr
  have hm : qh1 false c = (false, c, false) := by unfold qh1; rw [if_pos hk]
  rw [if_neg hr, hm, if_neg noBd]
  exact ⟨rfl, fun _ => rfl, (fun q => by cases q)⟩
theorem q1r {c : K} (hn : NoEnd c) (he : c.err = 0) : AlR ((qoj c).1, (qoj c).2.getD N0, (rowS qdv qh1 false c []).2.2.2) (qqc c) := by
 have h := qbip hn he
 refine ⟨h.1, fun q => ?_, h.2.2⟩
 have := h.2.1 q
 rw [List.nil_append] at this
 exact congrArg qpg this
def ql7 (x : Bool × Nat × K × List N) : AF × List Ent :=
 (⟨[(2, .ptr 0 0), (8, .ptr 1 0), (9, .ptr 2 0), (10, .bool x.1)], []⟩,
   zEN :: .blk (refC x.2.2.1).cells :: .blk [.int .i64 37, .int .i64 0, .int .i64 0, .str [], accV 3 (encs x.2.2.2)] :: accE 5 (encs x.2.2.2))
end Go.Proofs.YtfjbmjplnmaclaaGreat

/- the lexer: plain laws -/
namespace Go.Proofs.YtfjbmjplnmaclaaGreat
open Go Go.RowKit Go.V
set_option linter.unusedVariables false
set_option linter.unusedSimpArgs false

theorem q3r {l : List UInt8} {n : Nat} (h : 0 < n) : (l.take n).getD 0 0 = l.getD 0 0 := by
 cases l with
 | nil => simp
 | cons c r => cases n with
   | zero => omega
   | succ n => rfl
theorem qy6 {f : Int → Bool} {l : List UInt8} (hl : l ≠ []) (h : f (l.getD 0 0).toNat = true) : 0 < qbg f l := by
 cases l with
 | nil => exact absurd rfl hl
 | cons c r => rw [qsk (by simpa using h)]; omega
/-! Where it fails. -/
/-! Each word stands where it says. -/

def q6u (t : T) : Prop := (t.kind = 1 → varW t.text = true) ∧ (t.kind = 2 → conW t.text = true) ∧ (t.kind = 3 → 0 ≤ t.num)
theorem q6f {z : Int} (h0 : 0 ≤ z) (h1 : z ≤ 9223372036854775807) : IntKind.i64.wrap z = z := by
 simp [IntKind.wrap, IntKind.signed, IntKind.bits]
 omega
theorem qcli {z : Int} (h0 : 0 ≤ z) (h1 : z ≤ 255) : IntKind.u8.wrap z = z := by
 simp [IntKind.wrap, IntKind.signed, IntKind.bits]
 omega
theorem q11 : ∀ (l : List UInt8) (k : Int), digW l = true → 0 ≤ k → k ≤ 9223372036854775807 → 0 ≤ (qli k l).1
 | [], k, _, h, _ => h
 | c :: r, k, hd, h0, h1 => by
   simp only [digW, List.all_cons, Bool.and_eq_true, qcn, decide_eq_true_eq] at hd
   have hr : digW r = true := by
    simp only [digW, qcn]; exact hd.2
   have hu : IntKind.u8.wrap ((c.toNat : Int) - 48) = (c.toNat : Int) - 48 := qcli (by omega) (by omega)
   have hv : digV c = (c.toNat : Int) - 48 := by
    unfold digV; rw [hu]; exact q6f (by omega) (by omega)
   rw [qli]
   split
   ·exact Int.le_refl 0
   ·rename_i hlt
    have ht : topV c = (9223372036854775807 - digV c).tdiv 10 := by
     unfold topV
     have e1 : IntKind.i64.wrap (9223372036854775807 - digV c) = 9223372036854775807 - digV c := q6f (by omega) (by omega)
     have e3 : (9223372036854775807 - digV c).tdiv 10 = (9223372036854775807 - digV c) / 10 := Int.tdiv_eq_ediv_of_nonneg (by omega)
     rw [e1, e3]; exact q6f (by omega) (by omega)
    have e3 : (9223372036854775807 - digV c).tdiv 10 = (9223372036854775807 - digV c) / 10 := Int.tdiv_eq_ediv_of_nonneg (by omega)
    rw [ht, e3] at hlt
    have hn : nxtV k c = 10 * k + digV c := by
     unfold nxtV
     have e1 : IntKind.i64.wrap (10 * k) = 10 * k := q6f (by omega) (by omega)
     rw [e1]; exact q6f (by omega) (by omega)
    exact q11 r _ hr (by rw [hn]; omega) (by rw [hn]; omega)
theorem qbe9 {l : List UInt8} (hl : l ≠ []) (he : (qc8 l).2 = 0) : q6u (qc8 l).1 := by
 by_cases hd : qcn (l.getD 0 0).toNat = true
 ·rw [qsh hd]
  refine ⟨fun h => by simp at h, fun h => by simp at h, fun _ => ?_⟩
  have hne : l.take (qbg qcn l) ≠ [] := q1i hl (by have := qy6 hl hd; omega)
  have hdg : digW (l.take (qbg qcn l)) = true := qjj qcn l
  simp only
  rw [qk1 hne hdg]
  exact q11 _ 0 hdg (by omega) (by omega)
 ·have hd : qcn (l.getD 0 0).toNat = false := by simpa using hd
  by_cases ho : (onW (l.getD 0 0).toNat && !decide (((l.getD 0 0).toNat : Int) = 39)) = true
  ·have hon : onW (l.getD 0 0).toNat = true := by simp only [Bool.and_eq_true] at ho; exact ho.1
   have h39 : ¬ ((l.getD 0 0).toNat : Int) = 39 := by simp only [Bool.and_eq_true, Bool.not_eq_true', decide_eq_false_iff_not] at ho; exact ho.2
   have hp := qy6 hl hon
   have hne : l.take (qbg onW l) ≠ [] := q1i hl (by omega)
   have h0 : (l.take (qbg onW l)).getD 0 0 = l.getD 0 0 := q3r hp
   have hall : onsW (l.take (qbg onW l)) = true := qjj onW l
   rw [q1u hd ho]
   unfold qxc
   generalize l.take (qbg onW l) = w at hne h0 hall
   rw [← h0] at hd hon h39
   refine ⟨fun h => ?_, fun h => ?_, fun h => ?_⟩
   all_goals simp only [qbch] at h ⊢
   ·split at h
    ·exact absurd h (by decide)
    ·rename_i h1
     split at h
     ·exact absurd h (by decide)
     ·rename_i h2
      split at h
      ·exact absurd h (by decide)
      ·rename_i h3
       have hg : qj9 (w.getD 0 0).toNat = false := by
        apply Bool.eq_false_iff.2
        intro hg
        exact h3 (by simp only [conW, hg, hall, decide_eq_true hne, Bool.and_true])
       have hs : ql3 (w.getD 0 0).toNat = true := by
        simp only [onW, hg, hd, Bool.or_false, decide_eq_false h39] at hon
        exact hon
       simp only [varW, hs, hall, decide_eq_true hne, decide_eq_true h1, Bool.and_true, Bool.true_and, Bool.not_eq_true']
       simpa using h2
   ·split at h
    ·exact absurd h (by decide)
    ·split at h
     ·exact absurd h (by decide)
     ·split at h
      ·assumption
      ·exact absurd h (by decide)
   ·repeat' split at h
    all_goals exact absurd h (by decide)
  ·have ho : (onW (l.getD 0 0).toNat && !decide (((l.getD 0 0).toNat : Int) = 39)) = false := by simpa using ho
   by_cases hm : qke l = 0
   ·rw [q3k hd ho hm] at he; simp at he
   ·rw [qs7 hd ho hm]
    refine ⟨fun h => by simp at h, fun h => by simp at h, fun h => by simp at h⟩
theorem q7q {s : List UInt8} : ∀ (f k : Nat), (lexF f s k).2.2 = 0 → ∀ t ∈ (lexF f s k).1, q6u t
 | 0, k, _, t, ht => by simp [lexF] at ht
 | f + 1, k, h, t, ht => by
   rw [lexF] at h ht
   by_cases h1 : k < s.length
   ·rw [if_pos h1] at h ht
    by_cases h2 : (qc8 (s.drop k)).2 = 0
    ·rw [if_pos h2] at h ht
     have hr : (lexF f s (lexK s k)).2.2 = 0 := by
      unfold appR at h
      split at h
      ·rename_i e; exact e
      ·exact h
     rw [appR, if_pos hr] at ht
     rcases List.mem_append.1 ht with ht | ht
     ·simp only [List.mem_singleton] at ht
      subst ht
      have hne : s.drop k ≠ [] := by intro e; have := congrArg List.length e; simp at this; omega
      exact qbe9 hne h2
     ·exact q7q f _ hr t ht
    ·rw [if_neg h2] at h; exact absurd h h2
   ·rw [if_neg h1] at ht; simp at ht
theorem q49 {s : List UInt8} : ∀ t ∈ (lexV s).1, q6u t := by
 intro t ht
 by_cases h : 1048576 < (s.length : Int)
 ·rw [qqb h] at ht; simp at ht
 ·by_cases he : (lexG s (qc4 s)).2.2 = 0
  ·rw [qqy h he] at ht
   simp only [List.mem_append, List.mem_singleton] at ht
   rcases ht with ht | rfl
   ·exact q7q _ _ he t ht
   ·exact ⟨fun h => by simp at h, fun h => by simp at h, fun h => by simp at h⟩
  ·rw [qm2 h he] at ht; simp at ht

inductive Stp : K → K → Prop
 | refl (c : K) : Stp c c
 | next (c : K) : Stp c (qu c)
 | fail (c : K) (e : Int) : Stp c (qdg c e)
 | nest (c : K) (n : Nat) : Stp c { c with nest := n }
 | trans {a b c : K} : Stp a b → Stp b c → Stp a c
theorem qhx (c : K) : Stp c (qc c).1 := by
 unfold qc
 split
 ·split
  ·exact .nest c _
  ·exact .fail c 2
 ·exact .refl c
theorem qk4 (c : K) : Stp c (qcj c) := by
 unfold qcj
 split
 ·split
  ·exact .nest c _
  ·exact .refl c
 ·exact .refl c
theorem qjx (c : K) (x : List UInt8) : Stp c (qf c x).1 := by
 unfold qf
 split
 ·exact .next c
 ·exact .refl c
theorem qm0 (c : K) (x : List UInt8) : Stp c (qi c x).1 := by
 unfold qi
 split
 ·exact .next c
 ·exact .fail c 5
theorem qu7 (c : K) (k : Int) : Stp c (qn c k).1 := by
 unfold qn
 split
 ·exact .next c
 ·exact .fail c 5
section
variable {rec : K → K × Option N} (hm : ∀ c, Stp c (rec c).1)
include hm
theorem qh9 (c : K) : Stp c (qbz rec c).1 := by
 unfold qbz
 split
 ·exact .next c
 ·split
  ·exact .next c
  ·split
   ·split
    ·have h1 := ((qhx c).trans (.next _)).trans (hm _)
     split
     ·exact (h1.trans (qm0 _ _)).trans (qk4 _)
     ·exact h1.trans (qk4 _)
    ·exact qhx c
   ·exact .fail c 5
theorem qrd : ∀ (f : Nat) (c : K) (acc : List N), Stp c (qec rec f c acc).1
 | 0, c, acc => .refl c
 | f + 1, c, acc => by
   rw [qec]
   split
   ·split
    ·exact (qh9 hm c).trans (qrd f _ _)
    ·exact qh9 hm c
   ·exact .refl c
theorem qto (c : K) : Stp c (qcf rec c).1 := by
 unfold qcf
 split
 ·exact (Stp.next c).trans (qrd hm _ _ _)
 ·exact qh9 hm c
theorem qji (c : K) : Stp c (qbo rec c).1 := by
 unfold qbo
 split
 ·exact (qu7 c 2).trans (qh9 hm _)
 ·exact qu7 c 2
theorem qs4 (many : Bool) : ∀ (f : Nat) (c : K) (acc : List N), Stp c (qe0 rec many f c acc).1
 | 0, c, acc => .refl c
 | f + 1, c, acc => by
   rw [qe0]
   split
   ·split
    ·exact ((qji hm c).trans (qjx _ _)).trans (qs4 many f _ _)
    ·exact qji hm c
   ·exact qji hm c
theorem q53 (c : K) : Stp c (qg4 rec c).1 := by
 unfold qg4
 split
 ·exact qjx c _
 ·exact (qjx c _).trans (qs4 hm _ _ _ _)
theorem qxg (c : K) : Stp c (qbj rec c).1 := by
 unfold qbj qgi
 have h := q53 hm c
 split
 ·split
  ·split
   ·split
    ·exact (h.trans (qm0 _ _)).trans (qm0 _ _)
    ·exact h.trans (qm0 _ _)
   ·exact h.trans (qm0 _ _)
  ·exact h
 ·exact .refl c
end
theorem qia : ∀ (f : Nat) (c : K), Stp c (qb3 f c).1
 | 0, c => .refl c
 | f + 1, c => by
   have hr := (qhx c).trans (qto (qia f) (qc c).1)
   rw [qb3]
   split
   ·split
    ·split
     ·exact ((hr.trans (qjx _ _)).trans (qia f _)).trans (qk4 _)
     ·exact hr.trans (qk4 _)
    ·exact hr.trans (qk4 _)
   ·exact qhx c
theorem Stp.words {c c' : K} (h : Stp c c') : c'.l = c.l ∧ c'.ep = c.ep := by
 induction h with
 | refl c => exact ⟨rfl, rfl⟩
 | next c =>
   unfold qu
   split
   ·split <;> exact ⟨rfl, rfl⟩
   ·exact ⟨rfl, rfl⟩
 | fail c e => unfold qdg; split <;> exact ⟨rfl, rfl⟩
 | nest c n => exact ⟨rfl, rfl⟩
 | trans _ _ h1 h2 => exact ⟨h2.1.trans h1.1, h2.2.trans h1.2⟩
def okK (c : K) : Prop := ∀ t ∈ c.l, q6u t
theorem Stp.okK {c c' : K} (h : Stp c c') (hc : okK c) : okK c' := by
 unfold Go.Proofs.YtfjbmjplnmaclaaGreat.okK at *
 rw [h.words.1]; exact hc
theorem qf8 {c : K} (h : okK c) : q6u (qq c) := by
 unfold qq
 split
 ·split
  ·exact h _ (q17 (by assumption))
  ·exact ⟨fun h => by simp at h, fun h => by simp at h, fun h => by simp at h⟩
 ·exact ⟨fun h => by simp [T0] at h, fun h => by simp [T0] at h, fun h => by simp [T0] at h⟩
theorem qbmi {t : List UInt8} {p : Int} {ks : List N} (h : conW t = true) (hk : ks.all tyW = true) : tyW (.mk 2 p 0 t ks) = true := by
 rw [tyW, if_neg (by decide), if_pos ⟨rfl, rfl⟩, if_neg (qcj3 h), h, q2v, hk]; rfl
section
variable {rec : K → K × Option N} (hm : ∀ c, Stp c (rec c).1) (ih : ∀ c, okK c → ∀ n, (rec c).2 = some n → tyW n = true)
include hm ih
omit hm in
theorem qwg {c : K} (hc : okK c) : ∀ n, (qbz rec c).2 = some n → tyW n = true := by
 intro n h
 obtain ⟨h1, h2, h3⟩ := qf8 hc
 unfold qbz at h
 split at h
 ·rename_i hk; cases h; rw [qid, tyW, if_pos rfl, h1 hk]; rfl
 ·split at h
  ·rename_i hk; cases h; exact qbmi (h2 hk) rfl
  ·split at h
   ·split at h
    ·split at h
     ·simp only at h
      split at h
      ·exact ih _ (((qhx c).trans (.next _)).okK hc) n h
      ·cases h
     ·cases h
    ·cases h
   ·cases h
theorem q6y : ∀ (f : Nat) (c : K) (acc : List N), okK c → acc.all tyW = true → ∀ l, (qec rec f c acc).2 = some l → l.all tyW = true
 | 0, c, acc, hc, _ => fun n h => by cases h
 | f + 1, c, acc, hc, ha => fun l h => by
   rw [qec] at h
   split at h
   ·split at h
    ·rename_i hs
     obtain ⟨n, hn⟩ := Option.isSome_iff_exists.1 hs
     refine q6y f _ _ ((qh9 hm c).okK hc) ?_ l h
     rw [List.all_append, ha, hn]
     simp [qwg ih hc n hn]
    ·cases h
   ·cases h; exact ha
theorem qch6 {c : K} (hc : okK c) : ∀ n, (qcf rec c).2 = some n → tyW n = true := by
 intro n h
 unfold qcf at h
 split at h
 ·rename_i hk
  obtain ⟨l, hl, rfl⟩ := Option.map_eq_some_iff.1 h
  exact qbmi ((qf8 hc).2.1 hk) (q6y hm ih _ _ _ ((Stp.next c).okK hc) rfl l hl)
 ·exact qwg ih hc n h
omit hm in
theorem qbmy {c : K} (hc : okK c) : ∀ n, (qbo rec c).2 = some n → prW n = true := by
 intro n h
 unfold qbo at h
 split at h
 ·rename_i hk
  obtain ⟨m, hmm, rfl⟩ := Option.map_eq_some_iff.1 h
  obtain ⟨e1, e2⟩ := qhr hk
  have h2 := qwg ih ((qu7 c 2).okK hc) m hmm
  rw [(qk8 hk).2]
  simp [prW, qsv, N.kind, N.num, N.text, N.kids, (qf8 hc).2.1 e2, h2]
 ·cases h
theorem qwy (many : Bool) : ∀ (f : Nat) (c : K) (acc : List N), okK c → acc.all prW = true → ∀ l, (qe0 rec many f c acc).2 = some l → l.all prW = true
 | 0, c, acc, hc, _ => fun n h => by cases h
 | f + 1, c, acc, hc, ha => fun l h => by
   rw [qe0] at h
   split at h
   ·rename_i hs
    obtain ⟨n, hn⟩ := Option.isSome_iff_exists.1 hs
    have hall : (acc ++ [(qbo rec c).2.getD N0]).all prW = true := by
     rw [List.all_append, ha, hn]
     simp [qbmy ih hc n hn]
    split at h
    ·exact qwy many f _ _ (((qji hm c).trans (qjx _ _)).okK hc) hall l h
    ·cases h; exact hall
   ·cases h
theorem q2i {c : K} (hc : okK c) : ∀ l, (qbj rec c).2 = some l → l.all prW = true := by
 intro l h
 unfold qbj at h
 split at h
 ·have h := qj3 h
  unfold qg4 at h
  split at h
  ·cases h; rfl
  ·exact qwy hm ih _ _ _ _ ((qjx c _).okK hc) rfl l h
 ·simp only at h
  split at h
  ·cases h
  ·cases h; rfl
end
theorem qba0 : ∀ (f : Nat) (c : K), okK c → ∀ n, (qb3 f c).2 = some n → tyW n = true
 | 0, c, hc => fun n h => by cases h
 | f + 1, c, hc => fun n h => by
   have ih := qba0 f
   have hr := (qhx c).trans (qto (qia f) (qc c).1)
   rw [qb3] at h
   split at h
   ·split at h
    ·rename_i hs
     obtain ⟨m, hm⟩ := Option.isSome_iff_exists.1 hs
     have h1 := qch6 (qia f) ih ((qhx c).okK hc) m hm
     split at h
     ·obtain ⟨q, hq, rfl⟩ := Option.map_eq_some_iff.1 h
      have h2 := ih _ ((hr.trans (qjx _ _)).okK hc) q hq
      rw [hm]
      rw [qi7, tyW, if_neg (by decide), if_pos ⟨rfl, rfl⟩, if_pos rfl, tysW, tysW, tysW]
      simp [h1, h2]
     ·rw [hm] at h; cases h; exact h1
    ·cases h
   ·cases h
theorem qb95 {f : Nat} {c : K} (hc : okK c) : ∀ n, (qfw f c).2 = some n → quW n = true := by
 intro n h
 unfold qfw at h
 split at h
 ·rename_i hs
  obtain ⟨l, hl⟩ := Option.isSome_iff_exists.1 hs
  obtain ⟨q, hq, rfl⟩ := Option.map_eq_some_iff.1 h
  have h1 := q2i (qia f) (qba0 f) hc l hl
  have h2 := qba0 f _ ((qxg (qia f) c).okK hc) q hq
  rw [hl]
  have hlen : (((l ++ [q]).length : Int) - 1).toNat = l.length := by simp
  simp only [quW, qoe, qsb, N.kind, N.num, N.text, N.kids, Option.getD_some, hlen]
  simp [h1, h2]
 ·cases h
end Go.Proofs.YtfjbmjplnmaclaaGreat
