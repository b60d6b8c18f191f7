/- Texts of this proof, joined. -/
import Derived.Test.YtmekebfgmjaenaaPau
import Derived.Test.YtmekebfgmjaenaaPav

/- the cursor: what it is, what its methods do -/
set_option maxRecDepth 4000
namespace Go.Proofs.Ytmekebfgmjaenaa
open Go Go.RowKit Go.V
set_option linter.unusedVariables false
set_option linter.unusedSimpArgs false

attribute [go_sem] cond_true cond_false
/-- A cursor. -/
structure K where
  l : List T
  ep : Int
  at' : Nat
  nest : Nat
  err : Int
  pos : Int
def K.ok (c : K) : Prop := c.at' ≤ c.l.length ∧ c.l.length ≤ maxLen
def curE (c : K) : Ent := .blk [.sl 4 (qdg c.l), .int .i64 0, .int .i64 c.ep, .int .i64 0, .str [], .int .i64 c.at', .int .i64 c.nest, .int .i64 c.err, .int .i64 c.pos]
def K.bad (c : K) : Bool := !decide (c.err = 0)
theorem qf9 {c : K} (h : c.bad = false) : c.err = 0 := by simpa [K.bad] using h
theorem qgi {c : K} (h : c.bad = true) : ¬ c.err = 0 := by simpa [K.bad] using h
def qw (c : K) : T := if c.err = 0 then if c.at' < c.l.length then c.l.getD c.at' T0 else ⟨0, c.ep, 0, []⟩ else T0
def qs (c : K) : K := if c.err = 0 then if c.at' < c.l.length then { c with at' := c.at' + 1 } else c else c
def qes (t : T) (s : List UInt8) : Bool := (decide (t.kind = 4) || decide (t.kind = 5)) && decide (t.text = s)
def isK (c : K) (s : List UInt8) : Bool := decide (c.err = 0) && qes (qw c) s
def qee (c : K) (e : Int) : K := if c.err = 0 then { c with err := if e = 0 then 1 else e, pos := (qw c).pos } else c
def qp (c : K) (s : List UInt8) : K × Bool := if isK c s = true then (qs c, true) else (c, false)
def qr (c : K) (s : List UInt8) : K × Bool := if isK c s = true then (qs c, true) else (qee c 5, false)
def qe (c : K) : K × Bool := if c.err = 0 then if c.nest < 200 then ({ c with nest := c.nest + 1 }, true) else (qee c 2, false) else (c, false)
def qbv (c : K) : K := if c.err = 0 then if 0 < c.nest then { c with nest := c.nest - 1 } else c else c
def qe6 (c : K) : Int × Int := if c.err = 0 then if c.at' < c.l.length then ((c.l.getD c.at' T0).pos, 5) else (c.ep, 0) else (c.pos, c.err)

theorem qbk (k : Nat) (c : K) : (curE c).bd k = true := by
  simp only [curE, Ent.bd, AV.bds, AV.bd, qjz, Bool.and_true]
theorem qlk (σ : Nat → Nat) (c : K) : (curE c).ren σ = curE c := Ent.ren_same (m := 0) (fun i hi => by omega) _ (qbk 0 c)
attribute [go_sem] curE
/-- A call that leaves the first entry so. -/
def qca (P : Program) (f : FuncId) (e e' : Ent) (args : List AV) (r : AV) : Prop := VCalls P f [e] args fun H' o => H' = [e'] ∧ o = .val r
section
variable {P : Program} {f : FuncId} {e e' : Ent} {L : List Ent} {args : List AV} {r : AV} {Q : List Ent → VO → Prop}
theorem qb0 (h : qca P f e e' args r) (hb : e.bd 1 = true) (hb' : e'.bd 1 = true) (ha : AV.bds 1 args = true) (hr : r.bd 1 = true) (hq : r.wf → Q (e' :: L) (.val r)) : VApp P (e :: L) (.fn f [] []) args Q :=
  qgo (first := []) (caps := []) (by
    simp only [List.nil_append, List.append_nil]
    refine qik (H0 := [e]) (L := L) (h.mono' (Q' := fun H' o => (H' = [e'] ∧ o = .val r) ∧ r.wf) fun H' o hw ho => ⟨ho, by have := ho.2; subst this; exact hw⟩) (by simp [hb]) ha ?_
    rintro H1 o ⟨⟨rfl, rfl⟩, hw⟩
    exact ⟨rfl, by simp [hb'], hr, hq hw⟩)
theorem qzc (h : qca P f e e args r) (hb : e.bd 1 = true) (ha : AV.bds 1 args = true) (hr : r.bd 1 = true) {Kk : Md → AV → List Ent → Prop} (hq : r.wf → Kk .here r (e :: L)) (hw : r.wf) : DApp P (e :: L) (.fn f [] []) args Kk :=
  .inl ⟨r, qb0 h hb hb ha hr fun _ => ⟨rfl, rfl⟩, hq hw⟩
/-- A call that changes the first entry, wherever else it is made. -/
theorem qbm8 (h : qca P f e e' args r) (hb : e.bd 1 = true) (hb' : e'.bd 1 = true) (ha : AV.bds 1 args = true) (hr : r.bd 1 = true) (hn : e ≠ .dead) {Kk : Md → AV → List Ent → Prop} (hq : Kk (.meth 0 e e') r (e' :: L)) : DApp P (e :: L) (.fn f [] []) args Kk :=
  .inr (.inr ⟨r, 0, e, e', ⟨hn, rfl, fun H₀ h0 => by
    cases H₀ with
    | nil => exact absurd h0.symm hn
    | cons x L' =>
      cases (show x = e from h0)
      exact qb0 h hb hb' ha hr fun _ => ⟨rfl, rfl⟩⟩, hq⟩)
end

theorem qo8 (c : K) : qca Try.prog 21 (curE c) (curE c) [.ptr 0 0] (.bool c.bad) := by
  refine q9 c0bd 1 (by simp) (by simp) ?_
  unfold K.bad
  repeat' (first | refine ql ?_ | ((first | refine qn ?_ | refine qm ?_ | ((first | refine qf ?_ ?_ | refine qc ?_ ?_) <;> intro hc <;> (try simp only [hc]) <;> (try simp only [qb, qa, decide_eq_true_eq, decide_eq_false_iff_not, Bool.and_eq_true] at hc)) | refine And.intro (by first | assumption | omega | (have := qh (by assumption); omega) | (unfold qt; omega)) ?_ | simp (disch := omega) only [qd] | simp (disch := omega) only [qq]) <;> (try simp only [go_sem, ↓reduceIte, Nat.reduceEqDiff, Nat.reduceAdd, Nat.reduceSub, Nat.reduceMul, Nat.reduceLT, Nat.reduceLeDiff, reduceCtorEq, Int.reduceToNat])))
section
variable {c : K} {L : List Ent} {Q : List Ent → VO → Prop} {Kk : Md → AV → List Ent → Prop}
theorem qf2 (h : Q (curE c :: L) (.val (.bool c.bad))) : VApp Try.prog (curE c :: L) (.fn 21 [] []) [.ptr 0 0] Q := qb0 (qo8 c) (qbk _ _) (qbk _ _) rfl rfl fun _ => h
theorem q48 (h : Kk .here (.bool c.bad) (curE c :: L)) : DApp Try.prog (curE c :: L) (.fn 21 [] []) [.ptr 0 0] Kk := qzc (qo8 c) (qbk _ _) rfl rfl (fun _ => h) trivial
end
section
variable {c : K}
theorem qft (h : ¬ c.err = 0) : qw c = T0 := if_neg h
theorem qq6 (h : c.err = 0) (h2 : (c.at' : Int) < c.l.length) : qw c = c.l.getD c.at' T0 := by rw [qw, if_pos h, if_pos (by omega)]
theorem qs9 (h : c.err = 0) (h2 : ¬ (c.at' : Int) < c.l.length) : qw c = ⟨0, c.ep, 0, []⟩ := by rw [qw, if_pos h, if_neg (by omega)]
theorem q0w (h : ¬ c.err = 0) : qs c = c := if_neg h
theorem qq5 (h : c.err = 0) (h2 : (c.at' : Int) < c.l.length) : qs c = { c with at' := c.at' + 1 } := by rw [qs, if_pos h, if_pos (by omega)]
theorem q2d (h : c.err = 0) (h2 : ¬ (c.at' : Int) < c.l.length) : qs c = c := by rw [qs, if_pos h, if_neg (by omega)]
theorem qev {e : Int} (h : ¬ c.err = 0) : qee c e = c := if_neg h
theorem qbd1 (h : c.err = 0) : qee c 0 = { c with err := 1, pos := (qw c).pos } := by rw [qee, if_pos h, if_pos rfl]
theorem qy5 {e : Int} (h : c.err = 0) (he : ¬ e = 0) : qee c e = { c with err := e, pos := (qw c).pos } := by rw [qee, if_pos h, if_neg he]
end
section
variable {c : K} {x : List UInt8}
theorem qgz (h : isK c x = true) : qp c x = (qs c, true) := if_pos h
theorem qe7 (h : isK c x = false) : qp c x = (c, false) := by rw [qp, h]; rfl
theorem qbdj (h : (qp c x).2 = true) : qr c x = ((qp c x).1, true) := by
  unfold qp qr at *
  split at h
  · rename_i h1; rw [if_pos h1, if_pos h1]
  · cases h
theorem q8j (h : (qp c x).2 = false) : qr c x = (qee (qp c x).1 5, false) := by
  unfold qp qr at *
  split at h
  · cases h
  · rename_i h1; rw [if_neg h1, if_neg h1]
theorem qih (h : ¬ c.err = 0) : qe c = (c, false) := if_neg h
theorem q29 (h : c.err = 0) (h2 : ¬ (200 : Int) ≤ c.nest) : qe c = ({ c with nest := c.nest + 1 }, true) := by rw [qe, if_pos h, if_pos (by omega)]
theorem qvc (h : c.err = 0) (h2 : (200 : Int) ≤ c.nest) : qe c = (qee c 2, false) := by rw [qe, if_pos h, if_neg (by omega)]
theorem qxx (h : ¬ c.err = 0) : qbv c = c := if_neg h
theorem q1y (h : c.err = 0) (h2 : (0 : Int) < c.nest) : qbv c = { c with nest := c.nest - 1 } := by rw [qbv, if_pos h, if_pos (by omega)]
theorem q6n (h : c.err = 0) (h2 : ¬ (0 : Int) < c.nest) : qbv c = c := by rw [qbv, if_pos h, if_neg (by omega)]
theorem ql4 (h : ¬ c.err = 0) : qe6 c = (c.pos, c.err) := if_neg h
theorem qwk (h : c.err = 0) (h2 : (c.at' : Int) < c.l.length) : qe6 c = ((c.l.getD c.at' T0).pos, 5) := by rw [qe6, if_pos h, if_pos (by omega)]
theorem qsc (h : c.err = 0) (h2 : ¬ (c.at' : Int) < c.l.length) : qe6 c = (c.ep, 0) := by rw [qe6, if_pos h, if_neg (by omega)]
end
theorem q3n (c : K) : qca Try.prog 23 (curE c) (curE c) [.ptr 0 0] (encT (qw c)) := by
  refine q9 c0be 1 (by simp) (by simp) ?_
  repeat' (first | refine ql ?_ | refine qk ?_ | ((first | refine qn ?_ | refine qcw (by rfl) ?_ | refine qb6 ?_ | refine qm ?_ | refine qj ?_ | refine qi ?_ | refine qf2 ?_ | simp (disch := omega) only [qfl] | ((first | refine qf ?_ ?_ | refine qc ?_ ?_) <;> intro hc <;> (try simp only [hc]) <;> (try simp only [qb, qa, decide_eq_true_eq, decide_eq_false_iff_not, Bool.and_eq_true] at hc)) | refine And.intro (by first | assumption | omega | (have := qh (by assumption); omega) | (unfold qt; omega)) ?_ | simp (disch := omega) only [qd] | simp (disch := omega) only [qq]) <;> (try simp only [go_sem, ↓reduceIte, Nat.reduceEqDiff, Nat.reduceAdd, Nat.reduceSub, Nat.reduceMul, Nat.reduceLT, Nat.reduceLeDiff, reduceCtorEq, Int.reduceToNat])))
  · rw [qft (qgi (by assumption))]; rfl
  · rw [qq6 (qf9 (by assumption)) (by assumption)]
  · rw [qs9 (qf9 (by assumption)) (by assumption)]; rfl
section
variable {c : K} {L : List Ent} {Q : List Ent → VO → Prop} {Kk : Md → AV → List Ent → Prop}
theorem qc8 (h : Q (curE c :: L) (.val (encT (qw c)))) : VApp Try.prog (curE c :: L) (.fn 23 [] []) [.ptr 0 0] Q := qb0 (q3n c) (qbk _ _) (qbk _ _) rfl rfl fun _ => h
end
def qc0 (t : T) (ls : List (List UInt8)) : Bool := (decide (t.kind = 4) || decide (t.kind = 5)) && ls.contains t.text
theorem qzq (t : T) (ls : List (List UInt8)) : qdb Try.prog 54 [encT t, .sl 1 (ls.map AV.str)] (.bool (qc0 t ls)) := by
  refine qb5 c0bf (by simp) (by simp only [go_sem]) rfl fun hw => ?_
  have h1 : ls.length ≤ maxLen := by have := hw.2.1.1; rwa [qwu] at this
  have loop : ∀ (Q : VE → AF → List Ent → Prop) (tm : List (Nat × AV)) (H : List Ent), qc0 t ls = ls.contains t.text → H = [.blk [.int .i64 t.kind, .int .i64 t.pos, .int .i64 t.num, .str t.text]] →
      (get tm 2 = .ptr 0 0 ∧ get tm 15 = .sl 1 (ls.map AV.str) ∧ get tm 16 = .int .i64 ls.length ∧ get tm 17 = .int .i64 0) →
      Q = blq 0 (sq Try.prog none 26 0 (k0bf_r11.seq IC.ret) (retq 0 [(RV.t 4, Co.id)] fun H' o => o = VO.val (AV.bool (qc0 t ls)))) →
      VI Try.prog none 26 0 k0bf_l4.loop Q ⟨tm, []⟩ H := by
    rintro Q tm H hwd rfl ⟨h2, h15, h16, h17⟩ rfl
    rw [hwd]
    refine qc5 (S := Nat) (fun i => i ≤ ls.length ∧ ls.contains t.text = (ls.drop i).contains t.text) (fun i => (⟨[(2, .ptr 0 0), (15, .sl 1 (ls.map AV.str)), (16, .int .i64 ls.length), (17, .int .i64 i)], []⟩, [.blk [.int .i64 t.kind, .int .i64 t.pos, .int .i64 t.num, .str t.text]])) (fun i => ls.length - i) ?_ fun i hi => ?_
    · refine qcq 0 [0] ⟨Nat.zero_le _, rfl⟩ rfl (by simp) ?_ ?_ ?_ <;> (try simp only [go_sem, ↓reduceIte, Nat.reduceEqDiff, Nat.reduceAdd, Nat.reduceSub, Nat.reduceMul, Nat.reduceLT, Nat.reduceLeDiff, reduceCtorEq, Int.reduceToNat]) <;> (try simp (disch := omega) only [qq])
      exact ⟨h2, h15, h16, h17⟩
    · obtain ⟨hi, ha⟩ := hi
      repeat' (first | refine ql ?_ | refine qk ?_ | ((first | refine qn ?_ | refine qm ?_ | refine qz ?_ | refine qj ?_ | refine qi ?_ | simp (disch := omega) only [qsv] | ((first | refine qf ?_ ?_ | refine qc ?_ ?_) <;> intro hc <;> (try simp only [hc]) <;> (try simp only [qb, qa, decide_eq_true_eq, decide_eq_false_iff_not, Bool.and_eq_true] at hc)) | refine And.intro (by first | assumption | omega | (have := qh (by assumption); omega) | (unfold qt; omega)) ?_ | simp (disch := omega) only [qd] | simp (disch := omega) only [qq]) <;> (try simp only [go_sem, ↓reduceIte, Nat.reduceEqDiff, Nat.reduceAdd, Nat.reduceSub, Nat.reduceMul, Nat.reduceLT, Nat.reduceLeDiff, reduceCtorEq, Int.reduceToNat])))
      · rw [ha, ql0 (i := i) (by omega), List.contains_cons, hc]; simp
      · refine qcq (i + 1) [0] ⟨⟨by omega, ?_⟩, by omega⟩ rfl (by simp) ?_ ?_ ?_ <;> (try simp only [go_sem, ↓reduceIte, Nat.reduceEqDiff, Nat.reduceAdd, Nat.reduceSub, Nat.reduceMul, Nat.reduceLT, Nat.reduceLeDiff, reduceCtorEq, Int.reduceToNat]) <;> (try simp (disch := omega) only [qq])
        rw [ha, ql0 (i := i) (by omega), List.contains_cons, beq_eq_false_iff_ne.2 hc, Bool.false_or]
      · rw [ha, List.drop_of_length_le (by omega)]; rfl
  repeat' (first | refine ql ?_ | refine qk ?_ | ((first | refine qn ?_ | refine qm ?_ | refine qz ?_ | refine qj ?_ | refine qi ?_ | ((first | refine qf ?_ ?_ | refine qc ?_ ?_) <;> intro hc <;> (try simp only [hc]) <;> (try simp only [qb, qa, decide_eq_true_eq, decide_eq_false_iff_not, Bool.and_eq_true] at hc)) | refine And.intro (by first | assumption | omega | (have := qh (by assumption); omega) | (unfold qt; omega)) ?_ | simp (disch := omega) only [qd] | simp (disch := omega) only [qq]) <;> (try simp only [go_sem, ↓reduceIte, Nat.reduceEqDiff, Nat.reduceAdd, Nat.reduceSub, Nat.reduceMul, Nat.reduceLT, Nat.reduceLeDiff, reduceCtorEq, Int.reduceToNat])))
  · rw [show qc0 t ls = false by simp [qc0, *]]
  · exact loop _ _ _ (by simp [qc0, *]) rfl ⟨rfl, rfl, rfl, rfl⟩ rfl
  · exact loop _ _ _ (by simp [qc0, *]) rfl ⟨rfl, rfl, rfl, rfl⟩ rfl
theorem q47 (t : T) (x : List UInt8) : qc0 t [x] = qes t x := by
  unfold qc0 qes
  congr 1
  by_cases h : t.text = x
  · simp [h]
  · simp [h]
theorem qp9 (t : T) (x : List UInt8) : qdb Try.prog 54 [encT t, .sl 1 [.str x]] (.bool (qes t x)) := by
  rw [← q47]; exact qzq t [x]
theorem q46 (c : K) (hk : c.ok) : qca Try.prog 42 (curE c) (curE (qs c)) [.ptr 0 0] (encT (qw c)) := by
  refine q9 c0bg 1 (by simp) (by simp) ?_
  have h1 := hk.1
  have h2 := hk.2
  repeat' (first | refine ql ?_ | ((first | refine qn ?_ | refine qcw (by rfl) ?_ | refine qb6 ?_ | refine qm ?_ | refine qj ?_ | refine qi ?_ | refine qf2 ?_ | refine q48 ?_ | refine qc8 ?_ | simp (disch := omega) only [qq] | ((first | refine qf ?_ ?_ | refine qc ?_ ?_) <;> intro hc <;> (try simp only [hc]) <;> (try simp only [qb, qa, decide_eq_true_eq, decide_eq_false_iff_not, Bool.and_eq_true] at hc)) | refine And.intro (by first | assumption | omega | (have := qh (by assumption); omega) | (unfold qt; omega)) ?_ | simp (disch := omega) only [qd] | simp (disch := omega) only [qq]) <;> (try simp only [go_sem, ↓reduceIte, Nat.reduceEqDiff, Nat.reduceAdd, Nat.reduceSub, Nat.reduceMul, Nat.reduceLT, Nat.reduceLeDiff, reduceCtorEq, Int.reduceToNat])))
  · rw [qq5 (qf9 (by assumption)) (by assumption)]
  · rw [q2d (qf9 (by assumption)) (by assumption)]
  · rw [q0w (qgi (by assumption))]
section
variable {c : K} {L : List Ent} {Q : List Ent → VO → Prop} {Kk : Md → AV → List Ent → Prop} {x : List UInt8} {e : Int}
theorem qh9 (hk : c.ok) (h : Q (curE (qs c) :: L) (.val (encT (qw c)))) : VApp Try.prog (curE c :: L) (.fn 42 [] []) [.ptr 0 0] Q := qb0 (q46 c hk) (qbk _ _) (qbk _ _) rfl rfl fun _ => h
theorem qbrb (c : K) (x : List UInt8) : qca Try.prog 41 (curE c) (curE c) [.ptr 0 0, .str x] (.bool (isK c x)) := by
  refine q9 c0bh 1 (by simp) (by simp) ?_
  repeat' (first | refine ql ?_ | ((first | refine qn ?_ | refine qm ?_ | refine qf2 ?_ | refine qc8 ?_ | refine qy (qp9 _ _) fun _ => ?_ | refine qba  (qp9 _ _) ?_ | ((first | refine qf ?_ ?_ | refine qc ?_ ?_) <;> intro hc <;> (try simp only [hc]) <;> (try simp only [qb, qa, decide_eq_true_eq, decide_eq_false_iff_not, Bool.and_eq_true] at hc)) | refine And.intro (by first | assumption | omega | (have := qh (by assumption); omega) | (unfold qt; omega)) ?_ | simp (disch := omega) only [qd] | simp (disch := omega) only [qq]) <;> (try simp only [go_sem, ↓reduceIte, Nat.reduceEqDiff, Nat.reduceAdd, Nat.reduceSub, Nat.reduceMul, Nat.reduceLT, Nat.reduceLeDiff, reduceCtorEq, Int.reduceToNat])))
  · rw [isK, decide_eq_true (qf9 (by assumption))]; rfl
  · rw [isK, decide_eq_false (qgi (by assumption))]; rfl
theorem a_Is (h : Q (curE c :: L) (.val (.bool (isK c x)))) : VApp Try.prog (curE c :: L) (.fn 41 [] []) [.ptr 0 0, .str x] Q := qb0 (qbrb c x) (qbk _ _) (qbk _ _) rfl rfl fun _ => h
theorem qv6 (c : K) (e : Int) : qca Try.prog 22 (curE c) (curE (qee c e)) [.ptr 0 0, .int .i64 e] (.bool false) := by
  refine q9 c0bi 1 (by simp) (by simp) ?_
  repeat' (first | refine ql ?_ | ((first | refine qn ?_ | refine qm ?_ | refine qj ?_ | refine qi ?_ | refine qf2 ?_ | refine qc8 ?_ | ((first | refine qf ?_ ?_ | refine qc ?_ ?_) <;> intro hc <;> (try simp only [hc]) <;> (try simp only [qb, qa, decide_eq_true_eq, decide_eq_false_iff_not, Bool.and_eq_true] at hc)) | refine And.intro (by first | assumption | omega | (have := qh (by assumption); omega) | (unfold qt; omega)) ?_ | simp (disch := omega) only [qd] | simp (disch := omega) only [qq]) <;> (try simp only [go_sem, ↓reduceIte, Nat.reduceEqDiff, Nat.reduceAdd, Nat.reduceSub, Nat.reduceMul, Nat.reduceLT, Nat.reduceLeDiff, reduceCtorEq, Int.reduceToNat])))
  · subst hc; rw [qbd1 (qf9 (by assumption))]
  · rw [qy5 (qf9 (by assumption)) (by assumption)]
  · rw [qev (qgi (by assumption))]
theorem qpr (h : Q (curE (qee c e) :: L) (.val (.bool false))) : VApp Try.prog (curE c :: L) (.fn 22 [] []) [.ptr 0 0, .int .i64 e] Q := qb0 (qv6 c e) (qbk _ _) (qbk _ _) rfl rfl fun _ => h
theorem qbo0 {Kk : Md → AV → List Ent → Prop} (h : Kk (.meth 0 (curE c) (curE (qee c e))) (.bool false) (curE (qee c e) :: L)) : DApp Try.prog (curE c :: L) (.fn 22 [] []) [.ptr 0 0, .int .i64 e] Kk := qbm8 (qv6 c e) (qbk _ _) (qbk _ _) rfl rfl (by simp [curE]) h
theorem q3p (c : K) (hk : c.ok) (x : List UInt8) : qca Try.prog 24 (curE c) (curE (qp c x).1) [.ptr 0 0, .str x] (.bool (qp c x).2) := by
  refine q9 c0bj 1 (by simp) (by simp) ?_
  repeat' (first | refine ql ?_ | ((first | refine qn ?_ | refine qm ?_ | refine qj ?_ | refine qi ?_ | refine a_Is ?_ | refine qh9 hk ?_ | ((first | refine qf ?_ ?_ | refine qc ?_ ?_) <;> intro hc <;> (try simp only [hc]) <;> (try simp only [qb, qa, decide_eq_true_eq, decide_eq_false_iff_not, Bool.and_eq_true] at hc)) | refine And.intro (by first | assumption | omega | (have := qh (by assumption); omega) | (unfold qt; omega)) ?_ | simp (disch := omega) only [qd] | simp (disch := omega) only [qq]) <;> (try simp only [go_sem, ↓reduceIte, Nat.reduceEqDiff, Nat.reduceAdd, Nat.reduceSub, Nat.reduceMul, Nat.reduceLT, Nat.reduceLeDiff, reduceCtorEq, Int.reduceToNat])))
  · rw [qe7 (by assumption)]; exact ⟨rfl, rfl⟩
  · rw [qgz (by assumption)]; exact ⟨rfl, rfl⟩
theorem qd9 (hk : c.ok) (h : Q (curE (qp c x).1 :: L) (.val (.bool (qp c x).2))) : VApp Try.prog (curE c :: L) (.fn 24 [] []) [.ptr 0 0, .str x] Q := qb0 (q3p c hk x) (qbk _ _) (qbk _ _) rfl rfl fun _ => h
theorem q33 (c : K) (hk : c.ok) (x : List UInt8) : qca Try.prog 43 (curE c) (curE (qr c x).1) [.ptr 0 0, .str x] (.bool (qr c x).2) := by
  refine q9 c0bk 1 (by simp) (by simp) ?_
  repeat' (first | refine ql ?_ | ((first | refine qn ?_ | refine qm ?_ | refine qd9 hk ?_ | refine qpr ?_ | ((first | refine qf ?_ ?_ | refine qc ?_ ?_) <;> intro hc <;> (try simp only [hc]) <;> (try simp only [qb, qa, decide_eq_true_eq, decide_eq_false_iff_not, Bool.and_eq_true] at hc)) | refine And.intro (by first | assumption | omega | (have := qh (by assumption); omega) | (unfold qt; omega)) ?_ | simp (disch := omega) only [qd] | simp (disch := omega) only [qq]) <;> (try simp only [go_sem, ↓reduceIte, Nat.reduceEqDiff, Nat.reduceAdd, Nat.reduceSub, Nat.reduceMul, Nat.reduceLT, Nat.reduceLeDiff, reduceCtorEq, Int.reduceToNat])))
  · rw [qbdj (by assumption)]; exact ⟨rfl, rfl⟩
  · rw [q8j (by assumption)]; exact ⟨rfl, rfl⟩
theorem qde (hk : c.ok) (h : Q (curE (qr c x).1 :: L) (.val (.bool (qr c x).2))) : VApp Try.prog (curE c :: L) (.fn 43 [] []) [.ptr 0 0, .str x] Q := qb0 (q33 c hk x) (qbk _ _) (qbk _ _) rfl rfl fun _ => h
theorem q1l (c : K) : qca Try.prog 14 (curE c) (curE (qe c).1) [.ptr 0 0] (.bool (qe c).2) := by
  refine q9 c0bl 1 (by simp) (by simp) ?_
  repeat' (first | refine ql ?_ | ((first | refine qn ?_ | refine qm ?_ | refine qj ?_ | refine qi ?_ | refine qf2 ?_ | refine qpr ?_ | ((first | refine qf ?_ ?_ | refine qc ?_ ?_) <;> intro hc <;> (try simp only [hc]) <;> (try simp only [qb, qa, decide_eq_true_eq, decide_eq_false_iff_not, Bool.and_eq_true] at hc)) | refine And.intro (by first | assumption | omega | (have := qh (by assumption); omega) | (unfold qt; omega)) ?_ | simp (disch := omega) only [qd] | simp (disch := omega) only [qq]) <;> (try simp only [go_sem, ↓reduceIte, Nat.reduceEqDiff, Nat.reduceAdd, Nat.reduceSub, Nat.reduceMul, Nat.reduceLT, Nat.reduceLeDiff, reduceCtorEq, Int.reduceToNat])))
  · rw [qih (qgi (by assumption)), qev (qgi (by assumption))]; exact ⟨rfl, rfl⟩
  · rw [qvc (qf9 (by assumption)) (by assumption)]; exact ⟨rfl, rfl⟩
  · rw [q29 (qf9 (by assumption)) (by assumption), qhn (by omega) (by unfold maxLen; omega)]; exact ⟨rfl, rfl⟩
theorem qgk (h : Q (curE (qe c).1 :: L) (.val (.bool (qe c).2))) : VApp Try.prog (curE c :: L) (.fn 14 [] []) [.ptr 0 0] Q := qb0 (q1l c) (qbk _ _) (qbk _ _) rfl rfl fun _ => h
theorem q15 (c : K) (hn : c.nest ≤ 200) : qca Try.prog 16 (curE c) (curE (qbv c)) [.ptr 0 0] (.tup []) := by
  refine q9 c0bm 1 (by simp) (by simp) ?_
  repeat' (first | refine ql ?_ | ((first | refine qn ?_ | refine qm ?_ | refine qj ?_ | refine qi ?_ | refine qf2 ?_ | ((first | refine qf ?_ ?_ | refine qc ?_ ?_) <;> intro hc <;> (try simp only [hc]) <;> (try simp only [qb, qa, decide_eq_true_eq, decide_eq_false_iff_not, Bool.and_eq_true] at hc)) | refine And.intro (by first | assumption | omega | (have := qh (by assumption); omega) | (unfold qt; omega)) ?_ | simp (disch := omega) only [qd] | simp (disch := omega) only [qq]) <;> (try simp only [go_sem, ↓reduceIte, Nat.reduceEqDiff, Nat.reduceAdd, Nat.reduceSub, Nat.reduceMul, Nat.reduceLT, Nat.reduceLeDiff, reduceCtorEq, Int.reduceToNat])))
  · rw [q1y (qf9 (by assumption)) (by assumption), qhn (by omega) (by unfold maxLen; omega)]
    simp only [List.cons.injEq, Ent.blk.injEq, AV.int.injEq, true_and, and_true]; omega
  · rw [q6n (qf9 (by assumption)) (by assumption)]
  · rw [qxx (qgi (by assumption))]
theorem qek (hn : c.nest ≤ 200) (h : Q (curE (qbv c) :: L) (.val (.tup []))) : VApp Try.prog (curE c :: L) (.fn 16 [] []) [.ptr 0 0] Q := qb0 (q15 c hn) (qbk _ _) (qbk _ _) rfl rfl fun _ => h
theorem qwm (c : K) (hk : c.ok) : qca Try.prog 11 (curE c) (curE c) [.ptr 0 0] (.tup [.int .i64 (qe6 c).1, .int .i64 (qe6 c).2]) := by
  refine q9 c0bn 1 (by simp) (by simp) ?_
  repeat' (first | refine ql ?_ | refine qk ?_ | ((first | refine qn ?_ | refine qcw (by rfl) ?_ | refine qb6 ?_ | refine qm ?_ | refine qj ?_ | refine qi ?_ | simp (disch := omega) only [qfl] | ((first | refine qf ?_ ?_ | refine qc ?_ ?_) <;> intro hc <;> (try simp only [hc]) <;> (try simp only [qb, qa, decide_eq_true_eq, decide_eq_false_iff_not, Bool.and_eq_true] at hc)) | refine And.intro (by first | assumption | omega | (have := qh (by assumption); omega) | (unfold qt; omega)) ?_ | simp (disch := omega) only [qd] | simp (disch := omega) only [qq]) <;> (try simp only [go_sem, ↓reduceIte, Nat.reduceEqDiff, Nat.reduceAdd, Nat.reduceSub, Nat.reduceMul, Nat.reduceLT, Nat.reduceLeDiff, reduceCtorEq, Int.reduceToNat])))
  · rw [ql4 (by assumption)]
  · rw [qwk (by assumption) (by assumption)]
  · rw [qsc (by assumption) (by assumption)]
theorem qbqj (hk : c.ok) (h : Q (curE c :: L) (.val (.tup [.int .i64 (qe6 c).1, .int .i64 (qe6 c).2]))) : VApp Try.prog (curE c :: L) (.fn 11 [] []) [.ptr 0 0] Q := qb0 (qwm c hk) (qbk _ _) (qbk _ _) rfl rfl fun _ => h
end
set_option maxRecDepth 4000

def refC (c : K) : AV := .agg [.sl 4 (qdg (c.l.drop c.at')), .int .i64 0, .int .i64 c.ep, .int .i64 0, .str [], .int .i64 c.nest, .int .i64 c.err, .int .i64 c.pos]
attribute [go_sem] refC
/-- The words ahead of the first end. -/
def qe1 : List T → List T
  | [] => []
  | t :: r => if t.kind = 0 then [] else t :: qe1 r
def endT : List T → Int
  | [] => 0
  | t :: r => if t.kind = 0 then t.pos else endT r
def newK (l : List T) : K := ⟨qe1 l, endT l, 0, 0, 0, 0⟩
theorem qkf : ∀ l : List T, (qe1 l).length ≤ l.length
  | [] => Nat.le_refl _
  | t :: r => by
    rw [qe1]
    split
    · exact Nat.zero_le _
    · have := qkf r; simp only [List.length_cons]; omega
theorem qzw {l : List T} {i : Nat} (h1 : ∀ t ∈ l.take i, t.kind ≠ 0) (h : i < l.length) (h2 : (l.getD i T0).kind = 0) : qe1 l = l.take i ∧ endT l = (l.getD i T0).pos := by
  induction l generalizing i with
  | nil => simp at h
  | cons t r ih =>
    cases i with
    | zero => simp only [List.getD_cons_zero] at h2 ⊢; rw [qe1, endT, if_pos h2, if_pos h2]; exact ⟨rfl, rfl⟩
    | succ i =>
      have ht := h1 t (by simp)
      obtain ⟨g1, g2⟩ := ih (fun u hu => h1 u (List.mem_cons_of_mem t hu)) (by simpa using h) (by simpa using h2)
      rw [qe1, endT, if_neg ht, if_neg ht, g1, g2]
      exact ⟨rfl, rfl⟩
theorem q1q {l : List T} (h1 : ∀ t ∈ l, t.kind ≠ 0) : qe1 l = l ∧ endT l = 0 := by
  induction l with
  | nil => exact ⟨rfl, rfl⟩
  | cons t r ih =>
    obtain ⟨g1, g2⟩ := ih fun u hu => h1 u (by simp [hu])
    rw [qe1, endT, if_neg (h1 t (by simp)), if_neg (h1 t (by simp)), g1, g2]
    exact ⟨rfl, rfl⟩
theorem qjx {a : List T} {i : Nat} (h : i < a.length) {p : T → Prop} (h1 : ∀ t ∈ a.take i, p t) (h2 : p (a.getD i T0)) : ∀ t ∈ a.take (i + 1), p t := by
  intro t ht
  rw [List.take_add_one, List.getElem?_eq_getElem h] at ht
  rcases List.mem_append.1 ht with ht | ht
  · exact h1 t ht
  · simp only [Option.toList_some, List.mem_singleton] at ht
    subst ht
    rwa [List.getD_eq_getElem?_getD, List.getElem?_eq_getElem h] at h2
theorem qbpj (x : Ent) (es : List AV) : co (x :: accE 4 es) (.sl 4) (accV 1 es) = .sl 4 es := by
  cases es with
  | nil => rw [qb8, qpp]
  | cons e es =>
    rw [qcm (by simp), qrl, qcl (by simp)]
    simp only [ent, qza, if_true]
def q1v (l : List T) (i : Nat) : AF × List Ent :=
  (⟨[(3, .ptr 0 0), (8, .sl 4 (qdg l)), (9, .int .i64 l.length), (10, .int .i64 i)], []⟩,
    .blk [accV 1 (qdg (l.take i)), .int .i64 0, .int .i64 0, .int .i64 0, .str [], .int .i64 0, .int .i64 0, .int .i64 0, .int .i64 0] :: accE 4 (qdg (l.take i)))
theorem qsq {l : List T} (h : l ≠ []) : qdg l ≠ [] := by cases l with | nil => exact absurd rfl h | cons _ _ => simp [qdg]
theorem qyq {l : List T} {i : Nat} (h : i < l.length) : l.take (i + 1) = l.take i ++ [l.getD i T0] := by
  rw [List.take_add_one, List.getElem?_eq_getElem h, List.getD_eq_getElem?_getD, List.getElem?_eq_getElem h]; rfl
theorem capT {n : Nat} (h : n ≤ 1048580) : qt n 40 := by unfold qt; omega
theorem q6b (l : List T) (hl : l.length ≤ 1048577) : VCalls Try.prog 9 [] [.sl 4 (qdg l)] fun H' o => H' = [curE (newK l)] ∧ o = .val (.ptr 0 0) := by
  refine q9 c0bc 1 (by simp) (by simp) ?_
  have hmx : (1048577 : Nat) ≤ maxLen := by unfold maxLen; omega
  repeat' (first | refine ql ?_ | refine qk ?_ | ((first | refine qn ?_ | refine qcw (by rfl) ?_ | refine qb6 ?_ | refine qm ?_ | refine qz ?_ | refine qj ?_ | refine qi ?_ | ((first | refine qf ?_ ?_ | refine qc ?_ ?_) <;> intro hc <;> (try simp only [hc]) <;> (try simp only [qb, qa, decide_eq_true_eq, decide_eq_false_iff_not, Bool.and_eq_true] at hc)) | refine And.intro (by first | assumption | omega | (have := qh (by assumption); omega) | (unfold qt; omega)) ?_ | simp (disch := omega) only [qd] | simp (disch := omega) only [qq]) <;> (try simp only [go_sem, ↓reduceIte, Nat.reduceEqDiff, Nat.reduceAdd, Nat.reduceSub, Nat.reduceMul, Nat.reduceLT, Nat.reduceLeDiff, reduceCtorEq, Int.reduceToNat])))
  refine qc5 (S := Nat) (fun i => i ≤ l.length ∧ ∀ t ∈ l.take i, t.kind ≠ 0) (q1v l) (fun i => l.length - i) ?_ fun i hi => ?_
  · refine qcq 0 [0] ⟨Nat.zero_le _, by simp⟩ rfl (by simp) ?_ ?_ ?_ <;> simp only [q1v, List.take_zero, qrj, qb8, qce] <;> (try simp only [go_sem, ↓reduceIte, Nat.reduceEqDiff, Nat.reduceAdd, Nat.reduceSub, Nat.reduceMul, Nat.reduceLT, Nat.reduceLeDiff, reduceCtorEq, Int.reduceToNat]) <;> (try simp (disch := omega) only [qq])
  · obtain ⟨hi, ha⟩ := hi
    unfold q1v
    by_cases hx : i < l.length ∧ (l.getD i T0).kind ≠ 0
    · have hT : AV.agg [.int .i64 (l.getD i T0).kind, .int .i64 (l.getD i T0).pos, .int .i64 (l.getD i T0).num, .str (l.getD i T0).text] = encT (l.getD i T0) := rfl
      have hts := qyq hx.1
      have hne : qdg (l.take (i + 1)) ≠ [] := qsq (by rw [hts]; simp)
      have hlen : (l.take (i + 1)).length = i + 1 := by rw [List.length_take]; omega
      by_cases h0 : i = 0
      · subst h0
        simp only [List.take_zero, qrj, qb8, qce]
        repeat' (first | refine ql ?_ | refine qk ?_ | ((first | refine qn ?_ | refine qcw (by rfl) ?_ | refine qb6 ?_ | refine qm ?_ | refine qz ?_ | refine qj ?_ | refine qi ?_ | simp (disch := omega) only [qfl] | ((first | refine qf ?_ ?_ | refine qc ?_ ?_) <;> intro hc <;> (try simp only [hc]) <;> (try simp only [qb, qa, decide_eq_true_eq, decide_eq_false_iff_not, Bool.and_eq_true] at hc)) | refine And.intro (by first | assumption | omega | (have := qh (by assumption); omega) | (unfold qt; omega)) ?_ | simp (disch := omega) only [qd] | simp (disch := omega) only [qq]) <;> (try simp only [go_sem, ↓reduceIte, Nat.reduceEqDiff, Nat.reduceAdd, Nat.reduceSub, Nat.reduceMul, Nat.reduceLT, Nat.reduceLeDiff, reduceCtorEq, Int.reduceToNat])))
        · exact absurd (by assumption) hx.2
        · refine qcq 1 [0, 2] ⟨⟨by omega, qjx (by omega) ha hx.2⟩, by omega⟩ rfl (by simp) ?_ ?_ ?_
          all_goals simp only [q1v, qcm hne, qcl hne, qjn, hlen]
          all_goals (try simp only [Nat.zero_add] at hts)
          all_goals simp only [hts, List.take_zero, List.nil_append]
          all_goals simp only [go_sem, ↓reduceIte, Nat.reduceEqDiff, Nat.reduceAdd, Nat.reduceSub, Nat.reduceMul, Nat.reduceLT, Nat.reduceLeDiff, reduceCtorEq, Int.reduceToNat]
          all_goals first | exact ⟨rfl, rfl⟩ | exact congrArg _ (by decide) | rfl | trace_state
        · omega
      · have hne0 : qdg (l.take i) ≠ [] := qsq (by intro e; have := congrArg List.length e; simp only [List.length_take, List.length_nil] at this; omega)
        have hli : (l.take i).length = i := by rw [List.length_take]; omega
        simp only [qcm hne0, qcl hne0, qjn]
        have hat : ∀ ac : List T, ac = l.take i → qdg ac ++ [encT (l.getD i T0)] = qdg (l.take (i + 1)) := fun ac e => by rw [e, qnv, hts]
        generalize hac : l.take i = ac at *
        have hcap : qt (ac.length + 1) 40 := capT (by omega)
        have hil : (i : Int) < l.length := by omega
        have hkd := hx.2
        repeat' (first | refine ql ?_ | refine qk ?_ | ((first | refine qn ?_ | refine qcw (by rfl) ?_ | refine qb6 ?_ | refine qm ?_ | refine qz ?_ | refine qj ?_ | refine qi ?_) <;> (try simp (disch := first | omega | (simp only [List.length_set, List.length_append, List.length_cons, List.length_nil]; done) | (simp only [List.length_set, List.length_append, List.length_cons, List.length_nil]; omega)) only [hil, hkd, qfl, ne_eq, go_sem, ↓reduceIte, Nat.reduceEqDiff, Nat.reduceAdd, Nat.reduceSub, Nat.reduceMul, Nat.reduceLT, Nat.reduceLeDiff, reduceCtorEq, Int.reduceToNat])) | ((first | ((first | refine qf ?_ ?_ | refine qc ?_ ?_) <;> intro hc <;> (try simp only [hc]) <;> (try simp only [qb, qa, decide_eq_true_eq, decide_eq_false_iff_not, Bool.and_eq_true] at hc)) | refine And.intro (by first | assumption | omega | (have := qh (by assumption); omega) | (unfold qt; omega)) ?_ | simp (disch := omega) only [qd] | simp (disch := omega) only [qq]) <;> (try simp only [go_sem, ↓reduceIte, Nat.reduceEqDiff, Nat.reduceAdd, Nat.reduceSub, Nat.reduceMul, Nat.reduceLT, Nat.reduceLeDiff, reduceCtorEq, Int.reduceToNat])))
        · refine qcq (i + 1) [0, 3] ⟨⟨by omega, qjx (by omega) (by rw [hac]; exact ha) hx.2⟩, by omega⟩ rfl (by simp) ?_ ?_ ?_
          all_goals simp only [q1v, qcm hne, qcl hne, qjn, hlen]
          all_goals rw [← hat ac rfl]
          all_goals simp only [go_sem, ↓reduceIte, Nat.reduceEqDiff, Nat.reduceAdd, Nat.reduceSub, Nat.reduceMul, Nat.reduceLT, Nat.reduceLeDiff, reduceCtorEq, Int.reduceToNat]
          rw [hli, qnv ac, qno]
          exact ⟨rfl, qjz _ _, rfl⟩
    · refine q1i 0 0 (.sl 4) rfl ?_
      simp only [List.set_cons_zero, List.getD_cons_zero, qbpj]
      repeat' (first | refine ql ?_ | refine qk ?_ | ((first | refine qn ?_ | refine qcw (by rfl) ?_ | refine qb6 ?_ | refine qm ?_ | refine qz ?_ | refine qj ?_ | refine qi ?_ | simp (disch := omega) only [qfl] | ((first | refine qf ?_ ?_ | refine qc ?_ ?_) <;> intro hc <;> (try simp only [hc]) <;> (try simp only [qb, qa, decide_eq_true_eq, decide_eq_false_iff_not, Bool.and_eq_true] at hc)) | refine And.intro (by first | assumption | omega | (have := qh (by assumption); omega) | (unfold qt; omega)) ?_ | simp (disch := omega) only [qd] | simp (disch := omega) only [qq]) <;> (try simp only [go_sem, ↓reduceIte, Nat.reduceEqDiff, Nat.reduceAdd, Nat.reduceSub, Nat.reduceMul, Nat.reduceLT, Nat.reduceLeDiff, reduceCtorEq, Int.reduceToNat])))
      · obtain ⟨g1, g2⟩ := qzw ha (by omega) (by assumption)
        rw [newK, g1, g2]; rfl
      · exact hx ⟨by omega, by assumption⟩
      · rw [List.take_of_length_le (by omega)] at ha ⊢
        obtain ⟨g1, g2⟩ := q1q ha
        rw [newK, g1, g2]; rfl
end Go.Proofs.Ytmekebfgmjaenaa
