/- Texts of this proof, joined. -/
import Derived.Test.YtmekebfgmjaenaaRau
import Derived.Test.YtmekebfgmjaenaaRav

/- the cursor: what it is, what its methods do -/
set_option maxRecDepth 4000
namespace Go.Proofs.Ytmekebfgmjaenaa
open Go Go.RowKit Go.V
set_option linter.unusedVariables false
set_option linter.unusedSimpArgs false

attribute [go_sem] cond_true cond_false
/-- A cursor. -/
structure K where
  l : List T
  ep : Int
  at' : Nat
  nest : Nat
  err : Int
  pos : Int
def K.ok (c : K) : Prop := c.at' ≤ c.l.length ∧ c.l.length ≤ maxLen
def curE (c : K) : Ent := .blk [.sl 4 (qde c.l), .int .i64 0, .int .i64 c.ep, .int .i64 0, .str [], .int .i64 c.at', .int .i64 c.nest, .int .i64 c.err, .int .i64 c.pos]
def K.bad (c : K) : Bool := !decide (c.err = 0)
theorem qf3 {c : K} (h : c.bad = false) : c.err = 0 := by simpa [K.bad] using h
theorem qge {c : K} (h : c.bad = true) : ¬ c.err = 0 := by simpa [K.bad] using h
def qw (c : K) : T := if c.err = 0 then if c.at' < c.l.length then c.l.getD c.at' T0 else ⟨0, c.ep, 0, []⟩ else T0
def qt (c : K) : K := if c.err = 0 then if c.at' < c.l.length then { c with at' := c.at' + 1 } else c else c
def qe6 (t : T) (s : List UInt8) : Bool := (decide (t.kind = 4) || decide (t.kind = 5)) && decide (t.text = s)
def isK (c : K) (s : List UInt8) : Bool := decide (c.err = 0) && qe6 (qw c) s
def qee (c : K) (e : Int) : K := if c.err = 0 then { c with err := if e = 0 then 1 else e, pos := (qw c).pos } else c
def qp (c : K) (s : List UInt8) : K × Bool := if isK c s = true then (qt c, true) else (c, false)
def qq (c : K) (s : List UInt8) : K × Bool := if isK c s = true then (qt c, true) else (qee c 5, false)
def qe (c : K) : K × Bool := if c.err = 0 then if c.nest < 200 then ({ c with nest := c.nest + 1 }, true) else (qee c 2, false) else (c, false)
def qbn (c : K) : K := if c.err = 0 then if 0 < c.nest then { c with nest := c.nest - 1 } else c else c
def qeq (c : K) : Int × Int := if c.err = 0 then if c.at' < c.l.length then ((c.l.getD c.at' T0).pos, 5) else (c.ep, 0) else (c.pos, c.err)

theorem qbf (k : Nat) (c : K) : (curE c).bd k = true := by
  simp only [curE, Ent.bd, AV.bds, AV.bd, qjg, Bool.and_true]
theorem qlh (σ : Nat → Nat) (c : K) : (curE c).ren σ = curE c := Ent.ren_same (m := 0) (fun i hi => by omega) _ (qbf 0 c)
attribute [go_sem] curE
/-- A call that leaves the first entry so. -/
def qb8 (P : Program) (f : FuncId) (e e' : Ent) (args : List AV) (r : AV) : Prop := VCalls P f [e] args fun H' o => H' = [e'] ∧ o = .val r
section
variable {P : Program} {f : FuncId} {e e' : Ent} {L : List Ent} {args : List AV} {r : AV} {Q : List Ent → VO → Prop}
theorem qbw (h : qb8 P f e e' args r) (hb : e.bd 1 = true) (hb' : e'.bd 1 = true) (ha : AV.bds 1 args = true) (hr : r.bd 1 = true) (hq : r.wf → Q (e' :: L) (.val r)) : VApp P (e :: L) (.fn f [] []) args Q :=
  qgg (first := []) (caps := []) (by
    simp only [List.nil_append, List.append_nil]
    refine qh5 (H0 := [e]) (L := L) (h.mono' (Q' := fun H' o => (H' = [e'] ∧ o = .val r) ∧ r.wf) fun H' o hw ho => ⟨ho, by have := ho.2; subst this; exact hw⟩) (by simp [hb]) ha ?_
    rintro H1 o ⟨⟨rfl, rfl⟩, hw⟩
    exact ⟨rfl, by simp [hb'], hr, hq hw⟩)
theorem qzq (h : qb8 P f e e args r) (hb : e.bd 1 = true) (ha : AV.bds 1 args = true) (hr : r.bd 1 = true) {Kk : Md → AV → List Ent → Prop} (hq : r.wf → Kk .here r (e :: L)) (hw : r.wf) : DApp P (e :: L) (.fn f [] []) args Kk :=
  .inl ⟨r, qbw h hb hb ha hr fun _ => ⟨rfl, rfl⟩, hq hw⟩
/-- A call that changes the first entry, wherever else it is made. -/
theorem qbkb (h : qb8 P f e e' args r) (hb : e.bd 1 = true) (hb' : e'.bd 1 = true) (ha : AV.bds 1 args = true) (hr : r.bd 1 = true) (hn : e ≠ .dead) {Kk : Md → AV → List Ent → Prop} (hq : Kk (.meth 0 e e') r (e' :: L)) : DApp P (e :: L) (.fn f [] []) args Kk :=
  .inr (.inr ⟨r, 0, e, e', ⟨hn, rfl, fun H₀ h0 => by
    cases H₀ with
    | nil => exact absurd h0.symm hn
    | cons x L' =>
      cases (show x = e from h0)
      exact qbw h hb hb' ha hr fun _ => ⟨rfl, rfl⟩⟩, hq⟩)
end

theorem qoj (c : K) : qb8 Try.prog 21 (curE c) (curE c) [.ptr 0 0] (.bool c.bad) := by
  refine q7 c0bd 1 (by simp) (by simp) ?_
  unfold K.bad
  repeat' (first | refine ql ?_ | ((first | refine qn ?_ | refine qm ?_ | ((first | refine qf ?_ ?_ | refine qc ?_ ?_) <;> intro hc <;> (try simp only [hc]) <;> (try simp only [qb, qa, decide_eq_true_eq, decide_eq_false_iff_not, Bool.and_eq_true] at hc)) | refine And.intro (by first | assumption | omega | (have := qh (by assumption); omega) | (unfold qs; omega)) ?_ | simp (disch := omega) only [qd] | simp (disch := omega) only [qr]) <;> (try simp only [go_sem, ↓reduceIte, Nat.reduceEqDiff, Nat.reduceAdd, Nat.reduceSub, Nat.reduceMul, Nat.reduceLT, Nat.reduceLeDiff, reduceCtorEq, Int.reduceToNat])))
section
variable {c : K} {L : List Ent} {Q : List Ent → VO → Prop} {Kk : Md → AV → List Ent → Prop}
theorem qfx (h : Q (curE c :: L) (.val (.bool c.bad))) : VApp Try.prog (curE c :: L) (.fn 21 [] []) [.ptr 0 0] Q := qbw (qoj c) (qbf _ _) (qbf _ _) rfl rfl fun _ => h
theorem q4b (h : Kk .here (.bool c.bad) (curE c :: L)) : DApp Try.prog (curE c :: L) (.fn 21 [] []) [.ptr 0 0] Kk := qzq (qoj c) (qbf _ _) rfl rfl (fun _ => h) trivial
end
section
variable {c : K}
theorem qfo (h : ¬ c.err = 0) : qw c = T0 := if_neg h
theorem qqp (h : c.err = 0) (h2 : (c.at' : Int) < c.l.length) : qw c = c.l.getD c.at' T0 := by rw [qw, if_pos h, if_pos (by omega)]
theorem qs1 (h : c.err = 0) (h2 : ¬ (c.at' : Int) < c.l.length) : qw c = ⟨0, c.ep, 0, []⟩ := by rw [qw, if_pos h, if_neg (by omega)]
theorem qzy (h : ¬ c.err = 0) : qt c = c := if_neg h
theorem qq5 (h : c.err = 0) (h2 : (c.at' : Int) < c.l.length) : qt c = { c with at' := c.at' + 1 } := by rw [qt, if_pos h, if_pos (by omega)]
theorem qy9 (h : c.err = 0) (h2 : ¬ (c.at' : Int) < c.l.length) : qt c = c := by rw [qt, if_pos h, if_neg (by omega)]
theorem qex {e : Int} (h : ¬ c.err = 0) : qee c e = c := if_neg h
theorem qbhx (h : c.err = 0) : qee c 0 = { c with err := 1, pos := (qw c).pos } := by rw [qee, if_pos h, if_pos rfl]
theorem q2s {e : Int} (h : c.err = 0) (he : ¬ e = 0) : qee c e = { c with err := e, pos := (qw c).pos } := by rw [qee, if_pos h, if_neg he]
end
section
variable {c : K} {x : List UInt8}
theorem qnn (h : isK c x = true) : qp c x = (qt c, true) := if_pos h
theorem qfs (h : isK c x = false) : qp c x = (c, false) := by rw [qp, h]; rfl
theorem q8k (h : (qp c x).2 = true) : qq c x = ((qp c x).1, true) := by
  unfold qp qq at *
  split at h
  · rename_i h1; rw [if_pos h1, if_pos h1]
  · cases h
theorem q9b (h : (qp c x).2 = false) : qq c x = (qee (qp c x).1 5, false) := by
  unfold qp qq at *
  split at h
  · cases h
  · rename_i h1; rw [if_neg h1, if_neg h1]
theorem qic (h : ¬ c.err = 0) : qe c = (c, false) := if_neg h
theorem qzj (h : c.err = 0) (h2 : ¬ (200 : Int) ≤ c.nest) : qe c = ({ c with nest := c.nest + 1 }, true) := by rw [qe, if_pos h, if_pos (by omega)]
theorem qua (h : c.err = 0) (h2 : (200 : Int) ≤ c.nest) : qe c = (qee c 2, false) := by rw [qe, if_pos h, if_neg (by omega)]
theorem qxh (h : ¬ c.err = 0) : qbn c = c := if_neg h
theorem q1y (h : c.err = 0) (h2 : (0 : Int) < c.nest) : qbn c = { c with nest := c.nest - 1 } := by rw [qbn, if_pos h, if_pos (by omega)]
theorem q5j (h : c.err = 0) (h2 : ¬ (0 : Int) < c.nest) : qbn c = c := by rw [qbn, if_pos h, if_neg (by omega)]
theorem qn2 (h : ¬ c.err = 0) : qeq c = (c.pos, c.err) := if_neg h
theorem qwg (h : c.err = 0) (h2 : (c.at' : Int) < c.l.length) : qeq c = ((c.l.getD c.at' T0).pos, 5) := by rw [qeq, if_pos h, if_pos (by omega)]
theorem qr1 (h : c.err = 0) (h2 : ¬ (c.at' : Int) < c.l.length) : qeq c = (c.ep, 0) := by rw [qeq, if_pos h, if_neg (by omega)]
end
theorem q23 (c : K) : qb8 Try.prog 23 (curE c) (curE c) [.ptr 0 0] (encT (qw c)) := by
  refine q7 c0be 1 (by simp) (by simp) ?_
  repeat' (first | refine ql ?_ | refine qk ?_ | ((first | refine qn ?_ | refine qcr (by rfl) ?_ | refine qb4 ?_ | refine qm ?_ | refine qj ?_ | refine qi ?_ | refine qfx ?_ | simp (disch := omega) only [qfd] | ((first | refine qf ?_ ?_ | refine qc ?_ ?_) <;> intro hc <;> (try simp only [hc]) <;> (try simp only [qb, qa, decide_eq_true_eq, decide_eq_false_iff_not, Bool.and_eq_true] at hc)) | refine And.intro (by first | assumption | omega | (have := qh (by assumption); omega) | (unfold qs; omega)) ?_ | simp (disch := omega) only [qd] | simp (disch := omega) only [qr]) <;> (try simp only [go_sem, ↓reduceIte, Nat.reduceEqDiff, Nat.reduceAdd, Nat.reduceSub, Nat.reduceMul, Nat.reduceLT, Nat.reduceLeDiff, reduceCtorEq, Int.reduceToNat])))
  · rw [qfo (qge (by assumption))]; rfl
  · rw [qqp (qf3 (by assumption)) (by assumption)]
  · rw [qs1 (qf3 (by assumption)) (by assumption)]; rfl
section
variable {c : K} {L : List Ent} {Q : List Ent → VO → Prop} {Kk : Md → AV → List Ent → Prop}
theorem qc5 (h : Q (curE c :: L) (.val (encT (qw c)))) : VApp Try.prog (curE c :: L) (.fn 23 [] []) [.ptr 0 0] Q := qbw (q23 c) (qbf _ _) (qbf _ _) rfl rfl fun _ => h
end
def qcx (t : T) (ls : List (List UInt8)) : Bool := (decide (t.kind = 4) || decide (t.kind = 5)) && ls.contains t.text
theorem qze (t : T) (ls : List (List UInt8)) : qda Try.prog 54 [encT t, .sl 1 (ls.map AV.str)] (.bool (qcx t ls)) := by
  refine qb3 c0bf (by simp) (by simp only [go_sem]) rfl fun hw => ?_
  have h1 : ls.length ≤ maxLen := by have := hw.2.1.1; rwa [qv7] at this
  have loop : ∀ (Q : VE → AF → List Ent → Prop) (tm : List (Nat × AV)) (H : List Ent), qcx t ls = ls.contains t.text → H = [.blk [.int .i64 t.kind, .int .i64 t.pos, .int .i64 t.num, .str t.text]] →
      (get tm 2 = .ptr 0 0 ∧ get tm 15 = .sl 1 (ls.map AV.str) ∧ get tm 16 = .int .i64 ls.length ∧ get tm 17 = .int .i64 0) →
      Q = blq 0 (sq Try.prog none 26 0 (k0bf_r11.seq IC.ret) (retq 0 [(RV.t 4, Co.id)] fun H' o => o = VO.val (AV.bool (qcx t ls)))) →
      VI Try.prog none 26 0 k0bf_l4.loop Q ⟨tm, []⟩ H := by
    rintro Q tm H hwd rfl ⟨h2, h15, h16, h17⟩ rfl
    rw [hwd]
    refine qc7 (S := Nat) (fun i => i ≤ ls.length ∧ ls.contains t.text = (ls.drop i).contains t.text) (fun i => (⟨[(2, .ptr 0 0), (15, .sl 1 (ls.map AV.str)), (16, .int .i64 ls.length), (17, .int .i64 i)], []⟩, [.blk [.int .i64 t.kind, .int .i64 t.pos, .int .i64 t.num, .str t.text]])) (fun i => ls.length - i) ?_ fun i hi => ?_
    · refine qcq 0 [0] ⟨Nat.zero_le _, rfl⟩ rfl (by simp) ?_ ?_ ?_ <;> (try simp only [go_sem, ↓reduceIte, Nat.reduceEqDiff, Nat.reduceAdd, Nat.reduceSub, Nat.reduceMul, Nat.reduceLT, Nat.reduceLeDiff, reduceCtorEq, Int.reduceToNat]) <;> (try simp (disch := omega) only [qr])
      exact ⟨h2, h15, h16, h17⟩
    · obtain ⟨hi, ha⟩ := hi
      repeat' (first | refine ql ?_ | refine qk ?_ | ((first | refine qn ?_ | refine qm ?_ | refine qz ?_ | refine qj ?_ | refine qi ?_ | simp (disch := omega) only [qsf] | ((first | refine qf ?_ ?_ | refine qc ?_ ?_) <;> intro hc <;> (try simp only [hc]) <;> (try simp only [qb, qa, decide_eq_true_eq, decide_eq_false_iff_not, Bool.and_eq_true] at hc)) | refine And.intro (by first | assumption | omega | (have := qh (by assumption); omega) | (unfold qs; omega)) ?_ | simp (disch := omega) only [qd] | simp (disch := omega) only [qr]) <;> (try simp only [go_sem, ↓reduceIte, Nat.reduceEqDiff, Nat.reduceAdd, Nat.reduceSub, Nat.reduceMul, Nat.reduceLT, Nat.reduceLeDiff, reduceCtorEq, Int.reduceToNat])))
      · rw [ha, qnt (i := i) (by omega), List.contains_cons, hc]; simp
      · refine qcq (i + 1) [0] ⟨⟨by omega, ?_⟩, by omega⟩ rfl (by simp) ?_ ?_ ?_ <;> (try simp only [go_sem, ↓reduceIte, Nat.reduceEqDiff, Nat.reduceAdd, Nat.reduceSub, Nat.reduceMul, Nat.reduceLT, Nat.reduceLeDiff, reduceCtorEq, Int.reduceToNat]) <;> (try simp (disch := omega) only [qr])
        rw [ha, qnt (i := i) (by omega), List.contains_cons, beq_eq_false_iff_ne.2 hc, Bool.false_or]
      · rw [ha, List.drop_of_length_le (by omega)]; rfl
  repeat' (first | refine ql ?_ | refine qk ?_ | ((first | refine qn ?_ | refine qm ?_ | refine qz ?_ | refine qj ?_ | refine qi ?_ | ((first | refine qf ?_ ?_ | refine qc ?_ ?_) <;> intro hc <;> (try simp only [hc]) <;> (try simp only [qb, qa, decide_eq_true_eq, decide_eq_false_iff_not, Bool.and_eq_true] at hc)) | refine And.intro (by first | assumption | omega | (have := qh (by assumption); omega) | (unfold qs; omega)) ?_ | simp (disch := omega) only [qd] | simp (disch := omega) only [qr]) <;> (try simp only [go_sem, ↓reduceIte, Nat.reduceEqDiff, Nat.reduceAdd, Nat.reduceSub, Nat.reduceMul, Nat.reduceLT, Nat.reduceLeDiff, reduceCtorEq, Int.reduceToNat])))
  · rw [show qcx t ls = false by simp [qcx, *]]
  · exact loop _ _ _ (by simp [qcx, *]) rfl ⟨rfl, rfl, rfl, rfl⟩ rfl
  · exact loop _ _ _ (by simp [qcx, *]) rfl ⟨rfl, rfl, rfl, rfl⟩ rfl
theorem q6a (t : T) (x : List UInt8) : qcx t [x] = qe6 t x := by
  unfold qcx qe6
  congr 1
  by_cases h : t.text = x
  · simp [h]
  · simp [h]
theorem qp0 (t : T) (x : List UInt8) : qda Try.prog 54 [encT t, .sl 1 [.str x]] (.bool (qe6 t x)) := by
  rw [← q6a]; exact qze t [x]
theorem q54 (c : K) (hk : c.ok) : qb8 Try.prog 42 (curE c) (curE (qt c)) [.ptr 0 0] (encT (qw c)) := by
  refine q7 c0bg 1 (by simp) (by simp) ?_
  have h1 := hk.1
  have h2 := hk.2
  repeat' (first | refine ql ?_ | ((first | refine qn ?_ | refine qcr (by rfl) ?_ | refine qb4 ?_ | refine qm ?_ | refine qj ?_ | refine qi ?_ | refine qfx ?_ | refine q4b ?_ | refine qc5 ?_ | simp (disch := omega) only [qr] | ((first | refine qf ?_ ?_ | refine qc ?_ ?_) <;> intro hc <;> (try simp only [hc]) <;> (try simp only [qb, qa, decide_eq_true_eq, decide_eq_false_iff_not, Bool.and_eq_true] at hc)) | refine And.intro (by first | assumption | omega | (have := qh (by assumption); omega) | (unfold qs; omega)) ?_ | simp (disch := omega) only [qd] | simp (disch := omega) only [qr]) <;> (try simp only [go_sem, ↓reduceIte, Nat.reduceEqDiff, Nat.reduceAdd, Nat.reduceSub, Nat.reduceMul, Nat.reduceLT, Nat.reduceLeDiff, reduceCtorEq, Int.reduceToNat])))
  · rw [qq5 (qf3 (by assumption)) (by assumption)]
  · rw [qy9 (qf3 (by assumption)) (by assumption)]
  · rw [qzy (qge (by assumption))]
section
variable {c : K} {L : List Ent} {Q : List Ent → VO → Prop} {Kk : Md → AV → List Ent → Prop} {x : List UInt8} {e : Int}
theorem qhk (hk : c.ok) (h : Q (curE (qt c) :: L) (.val (encT (qw c)))) : VApp Try.prog (curE c :: L) (.fn 42 [] []) [.ptr 0 0] Q := qbw (q54 c hk) (qbf _ _) (qbf _ _) rfl rfl fun _ => h
theorem qbm6 (c : K) (x : List UInt8) : qb8 Try.prog 41 (curE c) (curE c) [.ptr 0 0, .str x] (.bool (isK c x)) := by
  refine q7 c0bh 1 (by simp) (by simp) ?_
  repeat' (first | refine ql ?_ | ((first | refine qn ?_ | refine qm ?_ | refine qfx ?_ | refine qc5 ?_ | refine qx (qp0 _ _) fun _ => ?_ | refine qba  (qp0 _ _) ?_ | ((first | refine qf ?_ ?_ | refine qc ?_ ?_) <;> intro hc <;> (try simp only [hc]) <;> (try simp only [qb, qa, decide_eq_true_eq, decide_eq_false_iff_not, Bool.and_eq_true] at hc)) | refine And.intro (by first | assumption | omega | (have := qh (by assumption); omega) | (unfold qs; omega)) ?_ | simp (disch := omega) only [qd] | simp (disch := omega) only [qr]) <;> (try simp only [go_sem, ↓reduceIte, Nat.reduceEqDiff, Nat.reduceAdd, Nat.reduceSub, Nat.reduceMul, Nat.reduceLT, Nat.reduceLeDiff, reduceCtorEq, Int.reduceToNat])))
  · rw [isK, decide_eq_true (qf3 (by assumption))]; rfl
  · rw [isK, decide_eq_false (qge (by assumption))]; rfl
theorem a_Is (h : Q (curE c :: L) (.val (.bool (isK c x)))) : VApp Try.prog (curE c :: L) (.fn 41 [] []) [.ptr 0 0, .str x] Q := qbw (qbm6 c x) (qbf _ _) (qbf _ _) rfl rfl fun _ => h
theorem qws (c : K) (e : Int) : qb8 Try.prog 22 (curE c) (curE (qee c e)) [.ptr 0 0, .int .i64 e] (.bool false) := by
  refine q7 c0bi 1 (by simp) (by simp) ?_
  repeat' (first | refine ql ?_ | ((first | refine qn ?_ | refine qm ?_ | refine qj ?_ | refine qi ?_ | refine qfx ?_ | refine qc5 ?_ | ((first | refine qf ?_ ?_ | refine qc ?_ ?_) <;> intro hc <;> (try simp only [hc]) <;> (try simp only [qb, qa, decide_eq_true_eq, decide_eq_false_iff_not, Bool.and_eq_true] at hc)) | refine And.intro (by first | assumption | omega | (have := qh (by assumption); omega) | (unfold qs; omega)) ?_ | simp (disch := omega) only [qd] | simp (disch := omega) only [qr]) <;> (try simp only [go_sem, ↓reduceIte, Nat.reduceEqDiff, Nat.reduceAdd, Nat.reduceSub, Nat.reduceMul, Nat.reduceLT, Nat.reduceLeDiff, reduceCtorEq, Int.reduceToNat])))
  · subst hc; rw [qbhx (qf3 (by assumption))]
  · rw [q2s (qf3 (by assumption)) (by assumption)]
  · rw [qex (qge (by assumption))]
theorem qo9 (h : Q (curE (qee c e) :: L) (.val (.bool false))) : VApp Try.prog (curE c :: L) (.fn 22 [] []) [.ptr 0 0, .int .i64 e] Q := qbw (qws c e) (qbf _ _) (qbf _ _) rfl rfl fun _ => h
theorem qbkc {Kk : Md → AV → List Ent → Prop} (h : Kk (.meth 0 (curE c) (curE (qee c e))) (.bool false) (curE (qee c e) :: L)) : DApp Try.prog (curE c :: L) (.fn 22 [] []) [.ptr 0 0, .int .i64 e] Kk := qbkb (qws c e) (qbf _ _) (qbf _ _) rfl rfl (by simp [curE]) h
theorem q29 (c : K) (hk : c.ok) (x : List UInt8) : qb8 Try.prog 24 (curE c) (curE (qp c x).1) [.ptr 0 0, .str x] (.bool (qp c x).2) := by
  refine q7 c0bj 1 (by simp) (by simp) ?_
  repeat' (first | refine ql ?_ | ((first | refine qn ?_ | refine qm ?_ | refine qj ?_ | refine qi ?_ | refine a_Is ?_ | refine qhk hk ?_ | ((first | refine qf ?_ ?_ | refine qc ?_ ?_) <;> intro hc <;> (try simp only [hc]) <;> (try simp only [qb, qa, decide_eq_true_eq, decide_eq_false_iff_not, Bool.and_eq_true] at hc)) | refine And.intro (by first | assumption | omega | (have := qh (by assumption); omega) | (unfold qs; omega)) ?_ | simp (disch := omega) only [qd] | simp (disch := omega) only [qr]) <;> (try simp only [go_sem, ↓reduceIte, Nat.reduceEqDiff, Nat.reduceAdd, Nat.reduceSub, Nat.reduceMul, Nat.reduceLT, Nat.reduceLeDiff, reduceCtorEq, Int.reduceToNat])))
  · rw [qfs (by assumption)]; exact ⟨rfl, rfl⟩
  · rw [qnn (by assumption)]; exact ⟨rfl, rfl⟩
theorem qec (hk : c.ok) (h : Q (curE (qp c x).1 :: L) (.val (.bool (qp c x).2))) : VApp Try.prog (curE c :: L) (.fn 24 [] []) [.ptr 0 0, .str x] Q := qbw (q29 c hk x) (qbf _ _) (qbf _ _) rfl rfl fun _ => h
theorem q6x (c : K) (hk : c.ok) (x : List UInt8) : qb8 Try.prog 43 (curE c) (curE (qq c x).1) [.ptr 0 0, .str x] (.bool (qq c x).2) := by
  refine q7 c0bk 1 (by simp) (by simp) ?_
  repeat' (first | refine ql ?_ | ((first | refine qn ?_ | refine qm ?_ | refine qec hk ?_ | refine qo9 ?_ | ((first | refine qf ?_ ?_ | refine qc ?_ ?_) <;> intro hc <;> (try simp only [hc]) <;> (try simp only [qb, qa, decide_eq_true_eq, decide_eq_false_iff_not, Bool.and_eq_true] at hc)) | refine And.intro (by first | assumption | omega | (have := qh (by assumption); omega) | (unfold qs; omega)) ?_ | simp (disch := omega) only [qd] | simp (disch := omega) only [qr]) <;> (try simp only [go_sem, ↓reduceIte, Nat.reduceEqDiff, Nat.reduceAdd, Nat.reduceSub, Nat.reduceMul, Nat.reduceLT, Nat.reduceLeDiff, reduceCtorEq, Int.reduceToNat])))
  · rw [q8k (by assumption)]; exact ⟨rfl, rfl⟩
  · rw [q9b (by assumption)]; exact ⟨rfl, rfl⟩
theorem qdc (hk : c.ok) (h : Q (curE (qq c x).1 :: L) (.val (.bool (qq c x).2))) : VApp Try.prog (curE c :: L) (.fn 43 [] []) [.ptr 0 0, .str x] Q := qbw (q6x c hk x) (qbf _ _) (qbf _ _) rfl rfl fun _ => h
theorem qyy (c : K) : qb8 Try.prog 14 (curE c) (curE (qe c).1) [.ptr 0 0] (.bool (qe c).2) := by
  refine q7 c0bl 1 (by simp) (by simp) ?_
  repeat' (first | refine ql ?_ | ((first | refine qn ?_ | refine qm ?_ | refine qj ?_ | refine qi ?_ | refine qfx ?_ | refine qo9 ?_ | ((first | refine qf ?_ ?_ | refine qc ?_ ?_) <;> intro hc <;> (try simp only [hc]) <;> (try simp only [qb, qa, decide_eq_true_eq, decide_eq_false_iff_not, Bool.and_eq_true] at hc)) | refine And.intro (by first | assumption | omega | (have := qh (by assumption); omega) | (unfold qs; omega)) ?_ | simp (disch := omega) only [qd] | simp (disch := omega) only [qr]) <;> (try simp only [go_sem, ↓reduceIte, Nat.reduceEqDiff, Nat.reduceAdd, Nat.reduceSub, Nat.reduceMul, Nat.reduceLT, Nat.reduceLeDiff, reduceCtorEq, Int.reduceToNat])))
  · rw [qic (qge (by assumption)), qex (qge (by assumption))]; exact ⟨rfl, rfl⟩
  · rw [qua (qf3 (by assumption)) (by assumption)]; exact ⟨rfl, rfl⟩
  · rw [qzj (qf3 (by assumption)) (by assumption), qho (by omega) (by unfold maxLen; omega)]; exact ⟨rfl, rfl⟩
theorem qgb (h : Q (curE (qe c).1 :: L) (.val (.bool (qe c).2))) : VApp Try.prog (curE c :: L) (.fn 14 [] []) [.ptr 0 0] Q := qbw (qyy c) (qbf _ _) (qbf _ _) rfl rfl fun _ => h
theorem q1m (c : K) (hn : c.nest ≤ 200) : qb8 Try.prog 16 (curE c) (curE (qbn c)) [.ptr 0 0] (.tup []) := by
  refine q7 c0bm 1 (by simp) (by simp) ?_
  repeat' (first | refine ql ?_ | ((first | refine qn ?_ | refine qm ?_ | refine qj ?_ | refine qi ?_ | refine qfx ?_ | ((first | refine qf ?_ ?_ | refine qc ?_ ?_) <;> intro hc <;> (try simp only [hc]) <;> (try simp only [qb, qa, decide_eq_true_eq, decide_eq_false_iff_not, Bool.and_eq_true] at hc)) | refine And.intro (by first | assumption | omega | (have := qh (by assumption); omega) | (unfold qs; omega)) ?_ | simp (disch := omega) only [qd] | simp (disch := omega) only [qr]) <;> (try simp only [go_sem, ↓reduceIte, Nat.reduceEqDiff, Nat.reduceAdd, Nat.reduceSub, Nat.reduceMul, Nat.reduceLT, Nat.reduceLeDiff, reduceCtorEq, Int.reduceToNat])))
  · rw [q1y (qf3 (by assumption)) (by assumption), qho (by omega) (by unfold maxLen; omega)]
    simp only [List.cons.injEq, Ent.blk.injEq, AV.int.injEq, true_and, and_true]; omega
  · rw [q5j (qf3 (by assumption)) (by assumption)]
  · rw [qxh (qge (by assumption))]
theorem qeo (hn : c.nest ≤ 200) (h : Q (curE (qbn c) :: L) (.val (.tup []))) : VApp Try.prog (curE c :: L) (.fn 16 [] []) [.ptr 0 0] Q := qbw (q1m c hn) (qbf _ _) (qbf _ _) rfl rfl fun _ => h
theorem qwn (c : K) (hk : c.ok) : qb8 Try.prog 11 (curE c) (curE c) [.ptr 0 0] (.tup [.int .i64 (qeq c).1, .int .i64 (qeq c).2]) := by
  refine q7 c0bn 1 (by simp) (by simp) ?_
  repeat' (first | refine ql ?_ | refine qk ?_ | ((first | refine qn ?_ | refine qcr (by rfl) ?_ | refine qb4 ?_ | refine qm ?_ | refine qj ?_ | refine qi ?_ | simp (disch := omega) only [qfd] | ((first | refine qf ?_ ?_ | refine qc ?_ ?_) <;> intro hc <;> (try simp only [hc]) <;> (try simp only [qb, qa, decide_eq_true_eq, decide_eq_false_iff_not, Bool.and_eq_true] at hc)) | refine And.intro (by first | assumption | omega | (have := qh (by assumption); omega) | (unfold qs; omega)) ?_ | simp (disch := omega) only [qd] | simp (disch := omega) only [qr]) <;> (try simp only [go_sem, ↓reduceIte, Nat.reduceEqDiff, Nat.reduceAdd, Nat.reduceSub, Nat.reduceMul, Nat.reduceLT, Nat.reduceLeDiff, reduceCtorEq, Int.reduceToNat])))
  · rw [qn2 (by assumption)]
  · rw [qwg (by assumption) (by assumption)]
  · rw [qr1 (by assumption) (by assumption)]
theorem qbj6 (hk : c.ok) (h : Q (curE c :: L) (.val (.tup [.int .i64 (qeq c).1, .int .i64 (qeq c).2]))) : VApp Try.prog (curE c :: L) (.fn 11 [] []) [.ptr 0 0] Q := qbw (qwn c hk) (qbf _ _) (qbf _ _) rfl rfl fun _ => h
end
set_option maxRecDepth 4000

def refC (c : K) : AV := .agg [.sl 4 (qde (c.l.drop c.at')), .int .i64 0, .int .i64 c.ep, .int .i64 0, .str [], .int .i64 c.nest, .int .i64 c.err, .int .i64 c.pos]
attribute [go_sem] refC
/-- The words ahead of the first end. -/
def qey : List T → List T
  | [] => []
  | t :: r => if t.kind = 0 then [] else t :: qey r
def endT : List T → Int
  | [] => 0
  | t :: r => if t.kind = 0 then t.pos else endT r
def newK (l : List T) : K := ⟨qey l, endT l, 0, 0, 0, 0⟩
theorem qkl : ∀ l : List T, (qey l).length ≤ l.length
  | [] => Nat.le_refl _
  | t :: r => by
    rw [qey]
    split
    · exact Nat.zero_le _
    · have := qkl r; simp only [List.length_cons]; omega
theorem q2j {l : List T} {i : Nat} (h1 : ∀ t ∈ l.take i, t.kind ≠ 0) (h : i < l.length) (h2 : (l.getD i T0).kind = 0) : qey l = l.take i ∧ endT l = (l.getD i T0).pos := by
  induction l generalizing i with
  | nil => simp at h
  | cons t r ih =>
    cases i with
    | zero => simp only [List.getD_cons_zero] at h2 ⊢; rw [qey, endT, if_pos h2, if_pos h2]; exact ⟨rfl, rfl⟩
    | succ i =>
      have ht := h1 t (by simp)
      obtain ⟨g1, g2⟩ := ih (fun u hu => h1 u (List.mem_cons_of_mem t hu)) (by simpa using h) (by simpa using h2)
      rw [qey, endT, if_neg ht, if_neg ht, g1, g2]
      exact ⟨rfl, rfl⟩
theorem qy7 {l : List T} (h1 : ∀ t ∈ l, t.kind ≠ 0) : qey l = l ∧ endT l = 0 := by
  induction l with
  | nil => exact ⟨rfl, rfl⟩
  | cons t r ih =>
    obtain ⟨g1, g2⟩ := ih fun u hu => h1 u (by simp [hu])
    rw [qey, endT, if_neg (h1 t (by simp)), if_neg (h1 t (by simp)), g1, g2]
    exact ⟨rfl, rfl⟩
theorem qi8 {a : List T} {i : Nat} (h : i < a.length) {p : T → Prop} (h1 : ∀ t ∈ a.take i, p t) (h2 : p (a.getD i T0)) : ∀ t ∈ a.take (i + 1), p t := by
  intro t ht
  rw [List.take_add_one, List.getElem?_eq_getElem h] at ht
  rcases List.mem_append.1 ht with ht | ht
  · exact h1 t ht
  · simp only [Option.toList_some, List.mem_singleton] at ht
    subst ht
    rwa [List.getD_eq_getElem?_getD, List.getElem?_eq_getElem h] at h2
theorem qbjt (x : Ent) (es : List AV) : co (x :: accE 4 es) (.sl 4) (accV 1 es) = .sl 4 es := by
  cases es with
  | nil => rw [qb7, qov]
  | cons e es =>
    rw [qch (by simp), qrq, qci (by simp)]
    simp only [ent, qza, if_true]
def qz3 (l : List T) (i : Nat) : AF × List Ent :=
  (⟨[(3, .ptr 0 0), (8, .sl 4 (qde l)), (9, .int .i64 l.length), (10, .int .i64 i)], []⟩,
    .blk [accV 1 (qde (l.take i)), .int .i64 0, .int .i64 0, .int .i64 0, .str [], .int .i64 0, .int .i64 0, .int .i64 0, .int .i64 0] :: accE 4 (qde (l.take i)))
theorem qr2 {l : List T} (h : l ≠ []) : qde l ≠ [] := by cases l with | nil => exact absurd rfl h | cons _ _ => simp [qde]
theorem qx1 {l : List T} {i : Nat} (h : i < l.length) : l.take (i + 1) = l.take i ++ [l.getD i T0] := by
  rw [List.take_add_one, List.getElem?_eq_getElem h, List.getD_eq_getElem?_getD, List.getElem?_eq_getElem h]; rfl
theorem capT {n : Nat} (h : n ≤ 1048580) : qs n 40 := by unfold qs; omega
theorem q5x (l : List T) (hl : l.length ≤ 1048577) : VCalls Try.prog 9 [] [.sl 4 (qde l)] fun H' o => H' = [curE (newK l)] ∧ o = .val (.ptr 0 0) := by
  refine q7 c0bc 1 (by simp) (by simp) ?_
  have hmx : (1048577 : Nat) ≤ maxLen := by unfold maxLen; omega
  repeat' (first | refine ql ?_ | refine qk ?_ | ((first | refine qn ?_ | refine qcr (by rfl) ?_ | refine qb4 ?_ | refine qm ?_ | refine qz ?_ | refine qj ?_ | refine qi ?_ | ((first | refine qf ?_ ?_ | refine qc ?_ ?_) <;> intro hc <;> (try simp only [hc]) <;> (try simp only [qb, qa, decide_eq_true_eq, decide_eq_false_iff_not, Bool.and_eq_true] at hc)) | refine And.intro (by first | assumption | omega | (have := qh (by assumption); omega) | (unfold qs; omega)) ?_ | simp (disch := omega) only [qd] | simp (disch := omega) only [qr]) <;> (try simp only [go_sem, ↓reduceIte, Nat.reduceEqDiff, Nat.reduceAdd, Nat.reduceSub, Nat.reduceMul, Nat.reduceLT, Nat.reduceLeDiff, reduceCtorEq, Int.reduceToNat])))
  refine qc7 (S := Nat) (fun i => i ≤ l.length ∧ ∀ t ∈ l.take i, t.kind ≠ 0) (qz3 l) (fun i => l.length - i) ?_ fun i hi => ?_
  · refine qcq 0 [0] ⟨Nat.zero_le _, by simp⟩ rfl (by simp) ?_ ?_ ?_ <;> simp only [qz3, List.take_zero, qrn, qb7, qcb] <;> (try simp only [go_sem, ↓reduceIte, Nat.reduceEqDiff, Nat.reduceAdd, Nat.reduceSub, Nat.reduceMul, Nat.reduceLT, Nat.reduceLeDiff, reduceCtorEq, Int.reduceToNat]) <;> (try simp (disch := omega) only [qr])
  · obtain ⟨hi, ha⟩ := hi
    unfold qz3
    by_cases hx : i < l.length ∧ (l.getD i T0).kind ≠ 0
    · have hT : AV.agg [.int .i64 (l.getD i T0).kind, .int .i64 (l.getD i T0).pos, .int .i64 (l.getD i T0).num, .str (l.getD i T0).text] = encT (l.getD i T0) := rfl
      have hts := qx1 hx.1
      have hne : qde (l.take (i + 1)) ≠ [] := qr2 (by rw [hts]; simp)
      have hlen : (l.take (i + 1)).length = i + 1 := by rw [List.length_take]; omega
      by_cases h0 : i = 0
      · subst h0
        simp only [List.take_zero, qrn, qb7, qcb]
        repeat' (first | refine ql ?_ | refine qk ?_ | ((first | refine qn ?_ | refine qcr (by rfl) ?_ | refine qb4 ?_ | refine qm ?_ | refine qz ?_ | refine qj ?_ | refine qi ?_ | simp (disch := omega) only [qfd] | ((first | refine qf ?_ ?_ | refine qc ?_ ?_) <;> intro hc <;> (try simp only [hc]) <;> (try simp only [qb, qa, decide_eq_true_eq, decide_eq_false_iff_not, Bool.and_eq_true] at hc)) | refine And.intro (by first | assumption | omega | (have := qh (by assumption); omega) | (unfold qs; omega)) ?_ | simp (disch := omega) only [qd] | simp (disch := omega) only [qr]) <;> (try simp only [go_sem, ↓reduceIte, Nat.reduceEqDiff, Nat.reduceAdd, Nat.reduceSub, Nat.reduceMul, Nat.reduceLT, Nat.reduceLeDiff, reduceCtorEq, Int.reduceToNat])))
        · exact absurd (by assumption) hx.2
        · refine qcq 1 [0, 2] ⟨⟨by omega, qi8 (by omega) ha hx.2⟩, by omega⟩ rfl (by simp) ?_ ?_ ?_
          all_goals simp only [qz3, qch hne, qci hne, qja, hlen]
          all_goals (try simp only [Nat.zero_add] at hts)
          all_goals simp only [hts, List.take_zero, List.nil_append]
          all_goals simp only [go_sem, ↓reduceIte, Nat.reduceEqDiff, Nat.reduceAdd, Nat.reduceSub, Nat.reduceMul, Nat.reduceLT, Nat.reduceLeDiff, reduceCtorEq, Int.reduceToNat]
          all_goals first | exact ⟨rfl, rfl⟩ | exact congrArg _ (by decide) | rfl | trace_state
        · omega
      · have hne0 : qde (l.take i) ≠ [] := qr2 (by intro e; have := congrArg List.length e; simp only [List.length_take, List.length_nil] at this; omega)
        have hli : (l.take i).length = i := by rw [List.length_take]; omega
        simp only [qch hne0, qci hne0, qja]
        have hat : ∀ ac : List T, ac = l.take i → qde ac ++ [encT (l.getD i T0)] = qde (l.take (i + 1)) := fun ac e => by rw [e, qmr, hts]
        generalize hac : l.take i = ac at *
        have hcap : qs (ac.length + 1) 40 := capT (by omega)
        have hil : (i : Int) < l.length := by omega
        have hkd := hx.2
        repeat' (first | refine ql ?_ | refine qk ?_ | ((first | refine qn ?_ | refine qcr (by rfl) ?_ | refine qb4 ?_ | refine qm ?_ | refine qz ?_ | refine qj ?_ | refine qi ?_) <;> (try simp (disch := first | omega | (simp only [List.length_set, List.length_append, List.length_cons, List.length_nil]; done) | (simp only [List.length_set, List.length_append, List.length_cons, List.length_nil]; omega)) only [hil, hkd, qfd, ne_eq, go_sem, ↓reduceIte, Nat.reduceEqDiff, Nat.reduceAdd, Nat.reduceSub, Nat.reduceMul, Nat.reduceLT, Nat.reduceLeDiff, reduceCtorEq, Int.reduceToNat])) | ((first | ((first | refine qf ?_ ?_ | refine qc ?_ ?_) <;> intro hc <;> (try simp only [hc]) <;> (try simp only [qb, qa, decide_eq_true_eq, decide_eq_false_iff_not, Bool.and_eq_true] at hc)) | refine And.intro (by first | assumption | omega | (have := qh (by assumption); omega) | (unfold qs; omega)) ?_ | simp (disch := omega) only [qd] | simp (disch := omega) only [qr]) <;> (try simp only [go_sem, ↓reduceIte, Nat.reduceEqDiff, Nat.reduceAdd, Nat.reduceSub, Nat.reduceMul, Nat.reduceLT, Nat.reduceLeDiff, reduceCtorEq, Int.reduceToNat])))
        · refine qcq (i + 1) [0, 3] ⟨⟨by omega, qi8 (by omega) (by rw [hac]; exact ha) hx.2⟩, by omega⟩ rfl (by simp) ?_ ?_ ?_
          all_goals simp only [qz3, qch hne, qci hne, qja, hlen]
          all_goals rw [← hat ac rfl]
          all_goals simp only [go_sem, ↓reduceIte, Nat.reduceEqDiff, Nat.reduceAdd, Nat.reduceSub, Nat.reduceMul, Nat.reduceLT, Nat.reduceLeDiff, reduceCtorEq, Int.reduceToNat]
          rw [hli, qmr ac, qm7]
          exact ⟨rfl, qjg _ _, rfl⟩
    · refine qzk 0 0 (.sl 4) rfl ?_
      simp only [List.set_cons_zero, List.getD_cons_zero, qbjt]
      repeat' (first | refine ql ?_ | refine qk ?_ | ((first | refine qn ?_ | refine qcr (by rfl) ?_ | refine qb4 ?_ | refine qm ?_ | refine qz ?_ | refine qj ?_ | refine qi ?_ | simp (disch := omega) only [qfd] | ((first | refine qf ?_ ?_ | refine qc ?_ ?_) <;> intro hc <;> (try simp only [hc]) <;> (try simp only [qb, qa, decide_eq_true_eq, decide_eq_false_iff_not, Bool.and_eq_true] at hc)) | refine And.intro (by first | assumption | omega | (have := qh (by assumption); omega) | (unfold qs; omega)) ?_ | simp (disch := omega) only [qd] | simp (disch := omega) only [qr]) <;> (try simp only [go_sem, ↓reduceIte, Nat.reduceEqDiff, Nat.reduceAdd, Nat.reduceSub, Nat.reduceMul, Nat.reduceLT, Nat.reduceLeDiff, reduceCtorEq, Int.reduceToNat])))
      · obtain ⟨g1, g2⟩ := q2j ha (by omega) (by assumption)
        rw [newK, g1, g2]; rfl
      · exact hx ⟨by omega, by assumption⟩
      · rw [List.take_of_length_le (by omega)] at ha ⊢
        obtain ⟨g1, g2⟩ := qy7 ha
        rw [newK, g1, g2]; rfl
end Go.Proofs.Ytmekebfgmjaenaa
