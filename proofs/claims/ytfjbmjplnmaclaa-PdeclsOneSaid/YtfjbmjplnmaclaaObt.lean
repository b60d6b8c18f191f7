/- A text of this proof. -/
import Derived.Test.YtfjbmjplnmaclaaObr
import Derived.Test.YtfjbmjplnmaclaaObs

/- a program of one declaration, with a semicolon or without: the plain law -/
namespace Go.Proofs.Ytfjbmjplnmaclaa.EX
open Go Go.RowKit Go.V
set_option linter.unusedVariables false
set_option linter.unusedSimpArgs false
set_option linter.unusedSectionVars false

theorem q22 {c : K} (h : (qgv c).2 = 0) : c.err = 0 ∧ remT c = [] := by
  have he := qbiv h
  refine ⟨he, ?_⟩
  unfold qgv at h
  rw [if_pos he] at h
  by_cases hl : c.at' < c.l.length
  · rw [if_pos hl] at h; cases h
  · exact List.drop_of_length_le (by omega)
theorem q4p {c : K} (he : c.err = 0) (h : remT c = []) : (qgv c).2 = 0 := by
  unfold qgv
  have : ¬ c.at' < c.l.length := by
    have := congrArg List.length h
    simp [remT] at this; omega
  rw [if_pos he, if_neg this]
theorem qpd {c : K} (hn : NoEnd c) (he : c.err = 0) (hr : remT c ≠ []) : (qw c).kind ≠ 0 := by
  cases h : remT c with
  | nil => exact absurd h hr
  | cons t r =>
    rw [(qey h he).1]
    have hm : t ∈ c.l := by
      have : t ∈ remT c := by rw [h]; simp
      exact List.mem_of_mem_drop this
    exact hn t hm
/-- One declaration, and its end. -/
theorem q6e {c : K} (hk : (qw c).kind ≠ 0) (ho : (qdc c).2.2 = true) {fl : Bool} {e : K} (hm : qim true (qdc c).1 = (fl, e, false)) : (rowS qdc qim false c []).2 = (e, [(qdc c).2.1], true) := by
  have hl := goes_decl.l c ho
  unfold rowS
  have m1 : qim false c = (true, c, true) := by
    unfold qim qbs
    simp [hk]
  obtain ⟨f, hf⟩ : ∃ f, rest c = f + 1 := ⟨rest c - 1, by omega⟩
  rw [hf, rowF, m1, if_pos rfl, if_pos ho, rowF, hm, if_neg noB]
  rfl
theorem qbo2 (n : N) (h : depR n < 100) : ¬ depR (qj8 [n]) > 100 := by
  rw [qyf]
  simp only [qj8, N.kids, qtb]
  generalize depR n = d at *
  simp only [IntKind.wrap, IntKind.signed, IntKind.bits]
  split <;> simp <;> omega
/-- THE LAW. -/
theorem law_one {s : List UInt8} (hs : s.length ≤ 3000) (h : (ql1 s).2.2 = 0) (hd : depR (ql1 s).1 < 100) : qji s = (qj8 [(ql1 s).1], 0, 0) ∧ qji (s ++ endB) = (qj8 [(ql1 s).1], 0, 0) := by
  unfold ql1 qxl at h hd ⊢
  by_cases hl : (lexV s).2.2 = 0
  · rw [if_pos hl] at h hd ⊢
    obtain ⟨l1, l2⟩ := qbhg (by omega) hl
    have gb := qqo (qk7 s).1
    have gc := qqo (qk7 (s ++ endB)).1
    have hn : NoEnd (newK (lexV s).1) := fun t ht => qkx ht
    have hn' : NoEnd (newK (lexV (s ++ endB)).1) := fun t ht => qkx ht
    have e0 : (newK (lexV s).1).err = 0 := rfl
    have e0' : (newK (lexV (s ++ endB)).1).err = 0 := rfl
    have n0 : (newK (lexV s).1).nest = 0 := rfl
    have n0' : (newK (lexV (s ++ endB)).1).nest = 0 := rfl
    have hp1 : qji s = qkb (qma (newK (lexV s).1)).1 ((qma (newK (lexV s).1)).2.getD N0) := by unfold qji qxl; rw [if_pos hl]
    have hp2 : qji (s ++ endB) = qkb (qma (newK (lexV (s ++ endB)).1)).1 ((qma (newK (lexV (s ++ endB)).1)).2.getD N0) := by unfold qji qxl; rw [if_pos l1]
    rw [hp1, hp2]
    clear hp1 hp2
    generalize newK (lexV s).1 = c at *
    generalize newK (lexV (s ++ endB)).1 = c' at *
    unfold decK at h hd ⊢
    simp only [Option.getD_some] at h hd ⊢
    have hdone : (qgv (qdc c).1).2 = 0 := by
      by_cases hq : (qgv (qdc c).1).2 = 0
      · exact hq
      · unfold qkb at h; rw [if_neg hq] at h; exact absurd h hq
    obtain ⟨he, hr⟩ := q22 hdone
    have hdep : ¬ depR (qdc c).2.1 > 100 := by
      intro q
      unfold qkb at h; rw [if_pos hdone, if_pos q] at h; cases h
    have hw : qkb (qdc c).1 (qdc c).2.1 = ((qdc c).2.1, 0, 0) := by unfold qkb; rw [if_pos hdone, if_neg hdep]
    rw [hw] at hd ⊢
    simp only at hd ⊢
    have hok : (qdc c).2.2 = true := by
      cases hq : (qdc c).2.2 with
      | true => rfl
      | false => exact absurd he ((qbae hn).2.2 hq)
    have hrc : remT c ≠ [] := by
      intro q
      have := goes_decl.l c hok
      have h2 : rest c = 0 := by rw [← qk5, q]; rfl
      omega
    have hk := qpd hn e0 hrc
    have hst : Stop [qs0 s] := .inr ⟨_, rfl, rfl, .inr (.inr rfl)⟩
    have hsm : Sm 0 [qs0 s] c c' := ⟨gb, gc, by rw [l2], by rw [n0, n0']; rfl, e0, e0'⟩
    obtain ⟨s1, s2, s3⟩ := q8l hst c c' hsm hok
    have hok' : (qdc c').2.2 = true := by rw [s2]; exact hok
    have hrc' : remT c' ≠ [] := by rw [l2]; simp
    have hk' := qpd hn' e0' hrc'
    have m1 : qim true (qdc c).1 = (true, (qdc c).1, false) := by
      unfold qim
      rw [if_pos (by rw [qfm hr he])]
    have hw' := s3.w
    rw [hr] at hw'
    have hw' : remT (qdc c').1 = [qs0 s] := by
      have := hw'
      simp only [List.nil_append] at this
      have hid : ∀ l : List T, l.map bare = l := fun l => List.map_id l
      rw [hid, hid] at this
      exact this
    have hi : isK (qdc c').1 [59] = true := by
      unfold isK qf0
      rw [(qey hw' s3.e').1, decide_eq_true s3.e']; rfl
    obtain ⟨x1, x2, x3⟩ := qow hw' s3.e'
    have m2 : qim true (qdc c').1 = (true, q7 (qdc c').1, false) := by
      unfold qim qbs
      rw [if_neg (by rw [(qey hw' s3.e').1]; exact (by decide : ¬ (5 : Int) = 0)), if_pos rfl, qiq hi]
      simp only [qfm x1 x2, decide_true, Bool.not_true, Bool.and_false]
    have r1 := q6e hk hok m1
    have r2 := q6e hk' hok' m2
    have hd1 := qbo2 _ hd
    refine ⟨?_, ?_⟩
    · unfold qma
      rw [r1]
      unfold qkb
      simp only [Option.getD_some]
      rw [if_pos hdone, if_neg hd1]
    · unfold qma
      rw [r2]
      unfold qkb
      simp only [Option.getD_some]
      rw [if_pos (q4p x2 x1), show (qdc c').2.1 = (qdc c).2.1 from congrArg Prod.fst s2, if_neg hd1]
  · rw [if_neg hl] at h; exact absurd h hl
end Go.Proofs.Ytfjbmjplnmaclaa.EX
