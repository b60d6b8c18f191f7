/- Texts of this proof, joined. -/
import Derived.Test.YtfjbmjplnmaclaaOat
import Derived.Test.YtfjbmjplnmaclaaOau

/- the cursor: what it is, what its methods do -/
set_option maxRecDepth 4000
namespace Go.Proofs.Ytfjbmjplnmaclaa
open Go Go.RowKit Go.V
set_option linter.unusedVariables false
set_option linter.unusedSimpArgs false

attribute [go_sem] cond_true cond_false
/-- A cursor. -/
structure K where
  l : List T
  ep : Int
  at' : Nat
  nest : Nat
  err : Int
  pos : Int
def K.ok (c : K) : Prop := c.at' ≤ c.l.length ∧ c.l.length ≤ maxLen
def curE (c : K) : Ent := .blk [.sl 4 (qd4 c.l), .int .i64 0, .int .i64 c.ep, .int .i64 0, .str [], .int .i64 c.at', .int .i64 c.nest, .int .i64 c.err, .int .i64 c.pos]
def K.bad (c : K) : Bool := !decide (c.err = 0)
theorem qhc {c : K} (h : c.bad = false) : c.err = 0 := by simpa [K.bad] using h
theorem qhf {c : K} (h : c.bad = true) : ¬ c.err = 0 := by simpa [K.bad] using h
def qw (c : K) : T := if c.err = 0 then if c.at' < c.l.length then c.l.getD c.at' T0 else ⟨0, c.ep, 0, []⟩ else T0
def q7 (c : K) : K := if c.err = 0 then if c.at' < c.l.length then { c with at' := c.at' + 1 } else c else c
def qf0 (t : T) (s : List UInt8) : Bool := (decide (t.kind = 4) || decide (t.kind = 5)) && decide (t.text = s)
def isK (c : K) (s : List UInt8) : Bool := decide (c.err = 0) && qf0 (qw c) s
def qd3 (c : K) (e : Int) : K := if c.err = 0 then { c with err := if e = 0 then 1 else e, pos := (qw c).pos } else c
def qs (c : K) (s : List UInt8) : K × Bool := if isK c s = true then (q7 c, true) else (c, false)
def qq (c : K) (s : List UInt8) : K × Bool := if isK c s = true then (q7 c, true) else (qd3 c 5, false)
def qi (c : K) : K × Bool := if c.err = 0 then if c.nest < 200 then ({ c with nest := c.nest + 1 }, true) else (qd3 c 2, false) else (c, false)
def qci (c : K) : K := if c.err = 0 then if 0 < c.nest then { c with nest := c.nest - 1 } else c else c
def qgv (c : K) : Int × Int := if c.err = 0 then if c.at' < c.l.length then ((c.l.getD c.at' T0).pos, 5) else (c.ep, 0) else (c.pos, c.err)

theorem qbe (k : Nat) (c : K) : (curE c).bd k = true := by
  simp only [curE, Ent.bd, AV.bds, AV.bd, qld, Bool.and_true]
theorem qc0 (σ : Nat → Nat) (c : K) : (curE c).ren σ = curE c := Ent.ren_same (m := 0) (fun i hi => by omega) _ (qbe 0 c)
attribute [go_sem] curE
/-- A call that leaves the first entry so. -/
def qcc (P : Program) (f : FuncId) (e e' : Ent) (args : List AV) (r : AV) : Prop := VCalls P f [e] args fun H' o => H' = [e'] ∧ o = .val r
section
variable {P : Program} {f : FuncId} {e e' : Ent} {L : List Ent} {args : List AV} {r : AV} {Q : List Ent → VO → Prop}
theorem qb9 (h : qcc P f e e' args r) (hb : e.bd 1 = true) (hb' : e'.bd 1 = true) (ha : AV.bds 1 args = true) (hr : r.bd 1 = true) (hq : r.wf → Q (e' :: L) (.val r)) : VApp P (e :: L) (.fn f [] []) args Q :=
  qcb (first := []) (caps := []) (by
    simp only [List.nil_append, List.append_nil]
    refine qc6 (H0 := [e]) (L := L) (h.mono' (Q' := fun H' o => (H' = [e'] ∧ o = .val r) ∧ r.wf) fun H' o hw ho => ⟨ho, by have := ho.2; subst this; exact hw⟩) (by simp [hb]) ha ?_
    rintro H1 o ⟨⟨rfl, rfl⟩, hw⟩
    exact ⟨rfl, by simp [hb'], hr, hq hw⟩)
theorem q6r (h : qcc P f e e args r) (hb : e.bd 1 = true) (ha : AV.bds 1 args = true) (hr : r.bd 1 = true) {Kk : Md → AV → List Ent → Prop} (hq : r.wf → Kk .here r (e :: L)) (hw : r.wf) : DApp P (e :: L) (.fn f [] []) args Kk :=
  .inl ⟨r, qb9 h hb hb ha hr fun _ => ⟨rfl, rfl⟩, hq hw⟩
/-- A call that changes the first entry, wherever else it is made. -/
theorem qbyz (h : qcc P f e e' args r) (hb : e.bd 1 = true) (hb' : e'.bd 1 = true) (ha : AV.bds 1 args = true) (hr : r.bd 1 = true) (hn : e ≠ .dead) {Kk : Md → AV → List Ent → Prop} (hq : Kk (.meth 0 e e') r (e' :: L)) : DApp P (e :: L) (.fn f [] []) args Kk :=
  .inr (.inr ⟨r, 0, e, e', ⟨hn, rfl, fun H₀ h0 => by
    cases H₀ with
    | nil => exact absurd h0.symm hn
    | cons x L' =>
      cases (show x = e from h0)
      exact qb9 h hb hb' ha hr fun _ => ⟨rfl, rfl⟩⟩, hq⟩)
end

theorem qsc (c : K) : qcc Try.prog 30 (curE c) (curE c) [.ptr 0 0] (.bool c.bad) := by
  refine qx c0bc 1 (by simp) (by simp) ?_
  unfold K.bad
  repeat' (first | refine qj ?_ | ((first | refine qn ?_ | refine qk ?_ | ((first | refine qe ?_ ?_ | refine qd ?_ ?_) <;> intro hc <;> (try simp only [hc]) <;> (try simp only [qb, qa, decide_eq_true_eq, decide_eq_false_iff_not, Bool.and_eq_true] at hc)) | refine And.intro (by first | assumption | omega | (have := qf (by assumption); omega) | (unfold qp; omega)) ?_ | simp (disch := omega) only [qc] | simp (disch := omega) only [qo]) <;> (try simp only [go_sem, ↓reduceIte, Nat.reduceEqDiff, Nat.reduceAdd, Nat.reduceSub, Nat.reduceMul, Nat.reduceLT, Nat.reduceLeDiff, reduceCtorEq, Int.reduceToNat])))
section
variable {c : K} {L : List Ent} {Q : List Ent → VO → Prop} {Kk : Md → AV → List Ent → Prop}
theorem qg6 (h : Q (curE c :: L) (.val (.bool c.bad))) : VApp Try.prog (curE c :: L) (.fn 30 [] []) [.ptr 0 0] Q := qb9 (qsc c) (qbe _ _) (qbe _ _) rfl rfl fun _ => h
theorem qbbc (h : Kk .here (.bool c.bad) (curE c :: L)) : DApp Try.prog (curE c :: L) (.fn 30 [] []) [.ptr 0 0] Kk := q6r (qsc c) (qbe _ _) rfl rfl (fun _ => h) trivial
end
section
variable {c : K}
theorem qgo (h : ¬ c.err = 0) : qw c = T0 := if_neg h
theorem qn4 (h : c.err = 0) (h2 : (c.at' : Int) < c.l.length) : qw c = c.l.getD c.at' T0 := by rw [qw, if_pos h, if_pos (by omega)]
theorem qoe (h : c.err = 0) (h2 : ¬ (c.at' : Int) < c.l.length) : qw c = ⟨0, c.ep, 0, []⟩ := by rw [qw, if_pos h, if_neg (by omega)]
theorem q6k (h : ¬ c.err = 0) : q7 c = c := if_neg h
theorem qtd (h : c.err = 0) (h2 : (c.at' : Int) < c.l.length) : q7 c = { c with at' := c.at' + 1 } := by rw [q7, if_pos h, if_pos (by omega)]
theorem q36 (h : c.err = 0) (h2 : ¬ (c.at' : Int) < c.l.length) : q7 c = c := by rw [q7, if_pos h, if_neg (by omega)]
theorem qe7 {e : Int} (h : ¬ c.err = 0) : qd3 c e = c := if_neg h
theorem qbnq (h : c.err = 0) : qd3 c 0 = { c with err := 1, pos := (qw c).pos } := by rw [qd3, if_pos h, if_pos rfl]
theorem q7i {e : Int} (h : c.err = 0) (he : ¬ e = 0) : qd3 c e = { c with err := e, pos := (qw c).pos } := by rw [qd3, if_pos h, if_neg he]
end
section
variable {c : K} {x : List UInt8}
theorem qiq (h : isK c x = true) : qs c x = (q7 c, true) := if_pos h
theorem qf1 (h : isK c x = false) : qs c x = (c, false) := by rw [qs, h]; rfl
theorem qbg6 (h : (qs c x).2 = true) : qq c x = ((qs c x).1, true) := by
  unfold qs qq at *
  split at h
  · rename_i h1; rw [if_pos h1, if_pos h1]
  · cases h
theorem qbi4 (h : (qs c x).2 = false) : qq c x = (qd3 (qs c x).1 5, false) := by
  unfold qs qq at *
  split at h
  · cases h
  · rename_i h1; rw [if_neg h1, if_neg h1]
theorem qjw (h : ¬ c.err = 0) : qi c = (c, false) := if_neg h
theorem q7l (h : c.err = 0) (h2 : ¬ (200 : Int) ≤ c.nest) : qi c = ({ c with nest := c.nest + 1 }, true) := by rw [qi, if_pos h, if_pos (by omega)]
theorem qww (h : c.err = 0) (h2 : (200 : Int) ≤ c.nest) : qi c = (qd3 c 2, false) := by rw [qi, if_pos h, if_neg (by omega)]
theorem q13 (h : ¬ c.err = 0) : qci c = c := if_neg h
theorem q7h (h : c.err = 0) (h2 : (0 : Int) < c.nest) : qci c = { c with nest := c.nest - 1 } := by rw [qci, if_pos h, if_pos (by omega)]
theorem q9s (h : c.err = 0) (h2 : ¬ (0 : Int) < c.nest) : qci c = c := by rw [qci, if_pos h, if_neg (by omega)]
theorem qo4 (h : ¬ c.err = 0) : qgv c = (c.pos, c.err) := if_neg h
theorem qzu (h : c.err = 0) (h2 : (c.at' : Int) < c.l.length) : qgv c = ((c.l.getD c.at' T0).pos, 5) := by rw [qgv, if_pos h, if_pos (by omega)]
theorem qu8 (h : c.err = 0) (h2 : ¬ (c.at' : Int) < c.l.length) : qgv c = (c.ep, 0) := by rw [qgv, if_pos h, if_neg (by omega)]
end
theorem qba3 (c : K) : qcc Try.prog 19 (curE c) (curE c) [.ptr 0 0] (encT (qw c)) := by
  refine qx c0bd 1 (by simp) (by simp) ?_
  repeat' (first | refine qj ?_ | refine ql ?_ | ((first | refine qn ?_ | refine qcm (by rfl) ?_ | refine qba ?_ | refine qk ?_ | refine qh ?_ | refine qg ?_ | refine qg6 ?_ | simp (disch := omega) only [qgg] | ((first | refine qe ?_ ?_ | refine qd ?_ ?_) <;> intro hc <;> (try simp only [hc]) <;> (try simp only [qb, qa, decide_eq_true_eq, decide_eq_false_iff_not, Bool.and_eq_true] at hc)) | refine And.intro (by first | assumption | omega | (have := qf (by assumption); omega) | (unfold qp; omega)) ?_ | simp (disch := omega) only [qc] | simp (disch := omega) only [qo]) <;> (try simp only [go_sem, ↓reduceIte, Nat.reduceEqDiff, Nat.reduceAdd, Nat.reduceSub, Nat.reduceMul, Nat.reduceLT, Nat.reduceLeDiff, reduceCtorEq, Int.reduceToNat])))
  · rw [qgo (qhf (by assumption))]; rfl
  · rw [qn4 (qhc (by assumption)) (by assumption)]
  · rw [qoe (qhc (by assumption)) (by assumption)]; rfl
section
variable {c : K} {L : List Ent} {Q : List Ent → VO → Prop} {Kk : Md → AV → List Ent → Prop}
theorem qb4 (h : Q (curE c :: L) (.val (encT (qw c)))) : VApp Try.prog (curE c :: L) (.fn 19 [] []) [.ptr 0 0] Q := qb9 (qba3 c) (qbe _ _) (qbe _ _) rfl rfl fun _ => h
end
def qdi (t : T) (ls : List (List UInt8)) : Bool := (decide (t.kind = 4) || decide (t.kind = 5)) && ls.contains t.text
theorem q5b (t : T) (ls : List (List UInt8)) : qde Try.prog 52 [encT t, .sl 1 (ls.map AV.str)] (.bool (qdi t ls)) := by
  refine qb7 c0be (by simp) (by simp only [go_sem]) rfl fun hw => ?_
  have h1 : ls.length ≤ maxLen := by have := hw.2.1.1; rwa [q0a] at this
  have loop : ∀ (Q : VE → AF → List Ent → Prop) (tm : List (Nat × AV)) (H : List Ent), qdi t ls = ls.contains t.text → H = [.blk [.int .i64 t.kind, .int .i64 t.pos, .int .i64 t.num, .str t.text]] →
      (get tm 2 = .ptr 0 0 ∧ get tm 15 = .sl 1 (ls.map AV.str) ∧ get tm 16 = .int .i64 ls.length ∧ get tm 17 = .int .i64 0) →
      Q = blq 0 (sq Try.prog none 26 0 (k0be_r11.seq IC.ret) (retq 0 [(RV.t 4, Co.id)] fun H' o => o = VO.val (AV.bool (qdi t ls)))) →
      VI Try.prog none 26 0 k0be_l4.loop Q ⟨tm, []⟩ H := by
    rintro Q tm H hwd rfl ⟨h2, h15, h16, h17⟩ rfl
    rw [hwd]
    refine qcy (S := Nat) (fun i => i ≤ ls.length ∧ ls.contains t.text = (ls.drop i).contains t.text) (fun i => (⟨[(2, .ptr 0 0), (15, .sl 1 (ls.map AV.str)), (16, .int .i64 ls.length), (17, .int .i64 i)], []⟩, [.blk [.int .i64 t.kind, .int .i64 t.pos, .int .i64 t.num, .str t.text]])) (fun i => ls.length - i) ?_ fun i hi => ?_
    · refine qcd 0 [0] ⟨Nat.zero_le _, rfl⟩ rfl (by simp) ?_ ?_ ?_ <;> (try simp only [go_sem, ↓reduceIte, Nat.reduceEqDiff, Nat.reduceAdd, Nat.reduceSub, Nat.reduceMul, Nat.reduceLT, Nat.reduceLeDiff, reduceCtorEq, Int.reduceToNat]) <;> (try simp (disch := omega) only [qo])
      exact ⟨h2, h15, h16, h17⟩
    · obtain ⟨hi, ha⟩ := hi
      repeat' (first | refine qj ?_ | refine ql ?_ | ((first | refine qn ?_ | refine qk ?_ | refine qu ?_ | refine qh ?_ | refine qg ?_ | simp (disch := omega) only [quv] | ((first | refine qe ?_ ?_ | refine qd ?_ ?_) <;> intro hc <;> (try simp only [hc]) <;> (try simp only [qb, qa, decide_eq_true_eq, decide_eq_false_iff_not, Bool.and_eq_true] at hc)) | refine And.intro (by first | assumption | omega | (have := qf (by assumption); omega) | (unfold qp; omega)) ?_ | simp (disch := omega) only [qc] | simp (disch := omega) only [qo]) <;> (try simp only [go_sem, ↓reduceIte, Nat.reduceEqDiff, Nat.reduceAdd, Nat.reduceSub, Nat.reduceMul, Nat.reduceLT, Nat.reduceLeDiff, reduceCtorEq, Int.reduceToNat])))
      · rw [ha, qp6 (i := i) (by omega), List.contains_cons, hc]; simp
      · refine qcd (i + 1) [0] ⟨⟨by omega, ?_⟩, by omega⟩ rfl (by simp) ?_ ?_ ?_ <;> (try simp only [go_sem, ↓reduceIte, Nat.reduceEqDiff, Nat.reduceAdd, Nat.reduceSub, Nat.reduceMul, Nat.reduceLT, Nat.reduceLeDiff, reduceCtorEq, Int.reduceToNat]) <;> (try simp (disch := omega) only [qo])
        rw [ha, qp6 (i := i) (by omega), List.contains_cons, beq_eq_false_iff_ne.2 hc, Bool.false_or]
      · rw [ha, List.drop_of_length_le (by omega)]; rfl
  repeat' (first | refine qj ?_ | refine ql ?_ | ((first | refine qn ?_ | refine qk ?_ | refine qu ?_ | refine qh ?_ | refine qg ?_ | ((first | refine qe ?_ ?_ | refine qd ?_ ?_) <;> intro hc <;> (try simp only [hc]) <;> (try simp only [qb, qa, decide_eq_true_eq, decide_eq_false_iff_not, Bool.and_eq_true] at hc)) | refine And.intro (by first | assumption | omega | (have := qf (by assumption); omega) | (unfold qp; omega)) ?_ | simp (disch := omega) only [qc] | simp (disch := omega) only [qo]) <;> (try simp only [go_sem, ↓reduceIte, Nat.reduceEqDiff, Nat.reduceAdd, Nat.reduceSub, Nat.reduceMul, Nat.reduceLT, Nat.reduceLeDiff, reduceCtorEq, Int.reduceToNat])))
  · rw [show qdi t ls = false by simp [qdi, *]]
  · exact loop _ _ _ (by simp [qdi, *]) rfl ⟨rfl, rfl, rfl, rfl⟩ rfl
  · exact loop _ _ _ (by simp [qdi, *]) rfl ⟨rfl, rfl, rfl, rfl⟩ rfl
theorem qba5 (t : T) (x : List UInt8) : qdi t [x] = qf0 t x := by
  unfold qdi qf0
  congr 1
  by_cases h : t.text = x
  · simp [h]
  · simp [h]
theorem qs7 (t : T) (x : List UInt8) : qde Try.prog 52 [encT t, .sl 1 [.str x]] (.bool (qf0 t x)) := by
  rw [← qba5]; exact q5b t [x]
theorem qbbw (c : K) (hk : c.ok) : qcc Try.prog 34 (curE c) (curE (q7 c)) [.ptr 0 0] (encT (qw c)) := by
  refine qx c0bf 1 (by simp) (by simp) ?_
  have h1 := hk.1
  have h2 := hk.2
  repeat' (first | refine qj ?_ | ((first | refine qn ?_ | refine qcm (by rfl) ?_ | refine qba ?_ | refine qk ?_ | refine qh ?_ | refine qg ?_ | refine qg6 ?_ | refine qbbc ?_ | refine qb4 ?_ | simp (disch := omega) only [qo] | ((first | refine qe ?_ ?_ | refine qd ?_ ?_) <;> intro hc <;> (try simp only [hc]) <;> (try simp only [qb, qa, decide_eq_true_eq, decide_eq_false_iff_not, Bool.and_eq_true] at hc)) | refine And.intro (by first | assumption | omega | (have := qf (by assumption); omega) | (unfold qp; omega)) ?_ | simp (disch := omega) only [qc] | simp (disch := omega) only [qo]) <;> (try simp only [go_sem, ↓reduceIte, Nat.reduceEqDiff, Nat.reduceAdd, Nat.reduceSub, Nat.reduceMul, Nat.reduceLT, Nat.reduceLeDiff, reduceCtorEq, Int.reduceToNat])))
  · rw [qtd (qhc (by assumption)) (by assumption)]
  · rw [q36 (qhc (by assumption)) (by assumption)]
  · rw [q6k (qhf (by assumption))]
section
variable {c : K} {L : List Ent} {Q : List Ent → VO → Prop} {Kk : Md → AV → List Ent → Prop} {x : List UInt8} {e : Int}
theorem qjb (hk : c.ok) (h : Q (curE (q7 c) :: L) (.val (encT (qw c)))) : VApp Try.prog (curE c :: L) (.fn 34 [] []) [.ptr 0 0] Q := qb9 (qbbw c hk) (qbe _ _) (qbe _ _) rfl rfl fun _ => h
theorem qbtz (c : K) (x : List UInt8) : qcc Try.prog 33 (curE c) (curE c) [.ptr 0 0, .str x] (.bool (isK c x)) := by
  refine qx c0bg 1 (by simp) (by simp) ?_
  repeat' (first | refine qj ?_ | ((first | refine qn ?_ | refine qk ?_ | refine qg6 ?_ | refine qb4 ?_ | refine qv (qs7 _ _) fun _ => ?_ | refine qy  (qs7 _ _) ?_ | ((first | refine qe ?_ ?_ | refine qd ?_ ?_) <;> intro hc <;> (try simp only [hc]) <;> (try simp only [qb, qa, decide_eq_true_eq, decide_eq_false_iff_not, Bool.and_eq_true] at hc)) | refine And.intro (by first | assumption | omega | (have := qf (by assumption); omega) | (unfold qp; omega)) ?_ | simp (disch := omega) only [qc] | simp (disch := omega) only [qo]) <;> (try simp only [go_sem, ↓reduceIte, Nat.reduceEqDiff, Nat.reduceAdd, Nat.reduceSub, Nat.reduceMul, Nat.reduceLT, Nat.reduceLeDiff, reduceCtorEq, Int.reduceToNat])))
  · rw [isK, decide_eq_true (qhc (by assumption))]; rfl
  · rw [isK, decide_eq_false (qhf (by assumption))]; rfl
theorem a_Is (h : Q (curE c :: L) (.val (.bool (isK c x)))) : VApp Try.prog (curE c :: L) (.fn 33 [] []) [.ptr 0 0, .str x] Q := qb9 (qbtz c x) (qbe _ _) (qbe _ _) rfl rfl fun _ => h
theorem q0p (c : K) (e : Int) : qcc Try.prog 43 (curE c) (curE (qd3 c e)) [.ptr 0 0, .int .i64 e] (.bool false) := by
  refine qx c0bh 1 (by simp) (by simp) ?_
  repeat' (first | refine qj ?_ | ((first | refine qn ?_ | refine qk ?_ | refine qh ?_ | refine qg ?_ | refine qg6 ?_ | refine qb4 ?_ | ((first | refine qe ?_ ?_ | refine qd ?_ ?_) <;> intro hc <;> (try simp only [hc]) <;> (try simp only [qb, qa, decide_eq_true_eq, decide_eq_false_iff_not, Bool.and_eq_true] at hc)) | refine And.intro (by first | assumption | omega | (have := qf (by assumption); omega) | (unfold qp; omega)) ?_ | simp (disch := omega) only [qc] | simp (disch := omega) only [qo]) <;> (try simp only [go_sem, ↓reduceIte, Nat.reduceEqDiff, Nat.reduceAdd, Nat.reduceSub, Nat.reduceMul, Nat.reduceLT, Nat.reduceLeDiff, reduceCtorEq, Int.reduceToNat])))
  · subst hc; rw [qbnq (qhc (by assumption))]
  · rw [q7i (qhc (by assumption)) (by assumption)]
  · rw [qe7 (qhf (by assumption))]
theorem qse (h : Q (curE (qd3 c e) :: L) (.val (.bool false))) : VApp Try.prog (curE c :: L) (.fn 43 [] []) [.ptr 0 0, .int .i64 e] Q := qb9 (q0p c e) (qbe _ _) (qbe _ _) rfl rfl fun _ => h
theorem qfp {Kk : Md → AV → List Ent → Prop} (h : Kk (.meth 0 (curE c) (curE (qd3 c e))) (.bool false) (curE (qd3 c e) :: L)) : DApp Try.prog (curE c :: L) (.fn 43 [] []) [.ptr 0 0, .int .i64 e] Kk := qbyz (q0p c e) (qbe _ _) (qbe _ _) rfl rfl (by simp [curE]) h
theorem qbby (c : K) (hk : c.ok) (x : List UInt8) : qcc Try.prog 26 (curE c) (curE (qs c x).1) [.ptr 0 0, .str x] (.bool (qs c x).2) := by
  refine qx c0bi 1 (by simp) (by simp) ?_
  repeat' (first | refine qj ?_ | ((first | refine qn ?_ | refine qk ?_ | refine qh ?_ | refine qg ?_ | refine a_Is ?_ | refine qjb hk ?_ | ((first | refine qe ?_ ?_ | refine qd ?_ ?_) <;> intro hc <;> (try simp only [hc]) <;> (try simp only [qb, qa, decide_eq_true_eq, decide_eq_false_iff_not, Bool.and_eq_true] at hc)) | refine And.intro (by first | assumption | omega | (have := qf (by assumption); omega) | (unfold qp; omega)) ?_ | simp (disch := omega) only [qc] | simp (disch := omega) only [qo]) <;> (try simp only [go_sem, ↓reduceIte, Nat.reduceEqDiff, Nat.reduceAdd, Nat.reduceSub, Nat.reduceMul, Nat.reduceLT, Nat.reduceLeDiff, reduceCtorEq, Int.reduceToNat])))
  · rw [qf1 (by assumption)]; exact ⟨rfl, rfl⟩
  · rw [qiq (by assumption)]; exact ⟨rfl, rfl⟩
theorem qd5 (hk : c.ok) (h : Q (curE (qs c x).1 :: L) (.val (.bool (qs c x).2))) : VApp Try.prog (curE c :: L) (.fn 26 [] []) [.ptr 0 0, .str x] Q := qb9 (qbby c hk x) (qbe _ _) (qbe _ _) rfl rfl fun _ => h
theorem qbb6 (c : K) (hk : c.ok) (x : List UInt8) : qcc Try.prog 39 (curE c) (curE (qq c x).1) [.ptr 0 0, .str x] (.bool (qq c x).2) := by
  refine qx c0bj 1 (by simp) (by simp) ?_
  repeat' (first | refine qj ?_ | ((first | refine qn ?_ | refine qk ?_ | refine qd5 hk ?_ | refine qse ?_ | ((first | refine qe ?_ ?_ | refine qd ?_ ?_) <;> intro hc <;> (try simp only [hc]) <;> (try simp only [qb, qa, decide_eq_true_eq, decide_eq_false_iff_not, Bool.and_eq_true] at hc)) | refine And.intro (by first | assumption | omega | (have := qf (by assumption); omega) | (unfold qp; omega)) ?_ | simp (disch := omega) only [qc] | simp (disch := omega) only [qo]) <;> (try simp only [go_sem, ↓reduceIte, Nat.reduceEqDiff, Nat.reduceAdd, Nat.reduceSub, Nat.reduceMul, Nat.reduceLT, Nat.reduceLeDiff, reduceCtorEq, Int.reduceToNat])))
  · rw [qbg6 (by assumption)]; exact ⟨rfl, rfl⟩
  · rw [qbi4 (by assumption)]; exact ⟨rfl, rfl⟩
theorem qce (hk : c.ok) (h : Q (curE (qq c x).1 :: L) (.val (.bool (qq c x).2))) : VApp Try.prog (curE c :: L) (.fn 39 [] []) [.ptr 0 0, .str x] Q := qb9 (qbb6 c hk x) (qbe _ _) (qbe _ _) rfl rfl fun _ => h
theorem q58 (c : K) : qcc Try.prog 53 (curE c) (curE (qi c).1) [.ptr 0 0] (.bool (qi c).2) := by
  refine qx c0bk 1 (by simp) (by simp) ?_
  repeat' (first | refine qj ?_ | ((first | refine qn ?_ | refine qk ?_ | refine qh ?_ | refine qg ?_ | refine qg6 ?_ | refine qse ?_ | ((first | refine qe ?_ ?_ | refine qd ?_ ?_) <;> intro hc <;> (try simp only [hc]) <;> (try simp only [qb, qa, decide_eq_true_eq, decide_eq_false_iff_not, Bool.and_eq_true] at hc)) | refine And.intro (by first | assumption | omega | (have := qf (by assumption); omega) | (unfold qp; omega)) ?_ | simp (disch := omega) only [qc] | simp (disch := omega) only [qo]) <;> (try simp only [go_sem, ↓reduceIte, Nat.reduceEqDiff, Nat.reduceAdd, Nat.reduceSub, Nat.reduceMul, Nat.reduceLT, Nat.reduceLeDiff, reduceCtorEq, Int.reduceToNat])))
  · rw [qjw (qhf (by assumption)), qe7 (qhf (by assumption))]; exact ⟨rfl, rfl⟩
  · rw [qww (qhc (by assumption)) (by assumption)]; exact ⟨rfl, rfl⟩
  · rw [q7l (qhc (by assumption)) (by assumption), qio (by omega) (by unfold maxLen; omega)]; exact ⟨rfl, rfl⟩
theorem qhh (h : Q (curE (qi c).1 :: L) (.val (.bool (qi c).2))) : VApp Try.prog (curE c :: L) (.fn 53 [] []) [.ptr 0 0] Q := qb9 (q58 c) (qbe _ _) (qbe _ _) rfl rfl fun _ => h
theorem q5q (c : K) (hn : c.nest ≤ 200) : qcc Try.prog 55 (curE c) (curE (qci c)) [.ptr 0 0] (.tup []) := by
  refine qx c0bl 1 (by simp) (by simp) ?_
  repeat' (first | refine qj ?_ | ((first | refine qn ?_ | refine qk ?_ | refine qh ?_ | refine qg ?_ | refine qg6 ?_ | ((first | refine qe ?_ ?_ | refine qd ?_ ?_) <;> intro hc <;> (try simp only [hc]) <;> (try simp only [qb, qa, decide_eq_true_eq, decide_eq_false_iff_not, Bool.and_eq_true] at hc)) | refine And.intro (by first | assumption | omega | (have := qf (by assumption); omega) | (unfold qp; omega)) ?_ | simp (disch := omega) only [qc] | simp (disch := omega) only [qo]) <;> (try simp only [go_sem, ↓reduceIte, Nat.reduceEqDiff, Nat.reduceAdd, Nat.reduceSub, Nat.reduceMul, Nat.reduceLT, Nat.reduceLeDiff, reduceCtorEq, Int.reduceToNat])))
  · rw [q7h (qhc (by assumption)) (by assumption), qio (by omega) (by unfold maxLen; omega)]
    simp only [List.cons.injEq, Ent.blk.injEq, AV.int.injEq, true_and, and_true]; omega
  · rw [q9s (qhc (by assumption)) (by assumption)]
  · rw [q13 (qhf (by assumption))]
theorem qfi (hn : c.nest ≤ 200) (h : Q (curE (qci c) :: L) (.val (.tup []))) : VApp Try.prog (curE c :: L) (.fn 55 [] []) [.ptr 0 0] Q := qb9 (q5q c hn) (qbe _ _) (qbe _ _) rfl rfl fun _ => h
theorem qzh (c : K) (hk : c.ok) : qcc Try.prog 23 (curE c) (curE c) [.ptr 0 0] (.tup [.int .i64 (qgv c).1, .int .i64 (qgv c).2]) := by
  refine qx c0bm 1 (by simp) (by simp) ?_
  repeat' (first | refine qj ?_ | refine ql ?_ | ((first | refine qn ?_ | refine qcm (by rfl) ?_ | refine qba ?_ | refine qk ?_ | refine qh ?_ | refine qg ?_ | simp (disch := omega) only [qgg] | ((first | refine qe ?_ ?_ | refine qd ?_ ?_) <;> intro hc <;> (try simp only [hc]) <;> (try simp only [qb, qa, decide_eq_true_eq, decide_eq_false_iff_not, Bool.and_eq_true] at hc)) | refine And.intro (by first | assumption | omega | (have := qf (by assumption); omega) | (unfold qp; omega)) ?_ | simp (disch := omega) only [qc] | simp (disch := omega) only [qo]) <;> (try simp only [go_sem, ↓reduceIte, Nat.reduceEqDiff, Nat.reduceAdd, Nat.reduceSub, Nat.reduceMul, Nat.reduceLT, Nat.reduceLeDiff, reduceCtorEq, Int.reduceToNat])))
  · rw [qo4 (by assumption)]
  · rw [qzu (by assumption) (by assumption)]
  · rw [qu8 (by assumption) (by assumption)]
theorem qbtk (hk : c.ok) (h : Q (curE c :: L) (.val (.tup [.int .i64 (qgv c).1, .int .i64 (qgv c).2]))) : VApp Try.prog (curE c :: L) (.fn 23 [] []) [.ptr 0 0] Q := qb9 (qzh c hk) (qbe _ _) (qbe _ _) rfl rfl fun _ => h
end
set_option maxRecDepth 4000

def refC (c : K) : AV := .agg [.sl 4 (qd4 (c.l.drop c.at')), .int .i64 0, .int .i64 c.ep, .int .i64 0, .str [], .int .i64 c.nest, .int .i64 c.err, .int .i64 c.pos]
attribute [go_sem] refC
/-- The words ahead of the first end. -/
def qfb : List T → List T
  | [] => []
  | t :: r => if t.kind = 0 then [] else t :: qfb r
def endT : List T → Int
  | [] => 0
  | t :: r => if t.kind = 0 then t.pos else endT r
def newK (l : List T) : K := ⟨qfb l, endT l, 0, 0, 0, 0⟩
theorem qmg : ∀ l : List T, (qfb l).length ≤ l.length
  | [] => Nat.le_refl _
  | t :: r => by
    rw [qfb]
    split
    · exact Nat.zero_le _
    · have := qmg r; simp only [List.length_cons]; omega
theorem q54 {l : List T} {i : Nat} (h1 : ∀ t ∈ l.take i, t.kind ≠ 0) (h : i < l.length) (h2 : (l.getD i T0).kind = 0) : qfb l = l.take i ∧ endT l = (l.getD i T0).pos := by
  induction l generalizing i with
  | nil => simp at h
  | cons t r ih =>
    cases i with
    | zero => simp only [List.getD_cons_zero] at h2 ⊢; rw [qfb, endT, if_pos h2, if_pos h2]; exact ⟨rfl, rfl⟩
    | succ i =>
      have ht := h1 t (by simp)
      obtain ⟨g1, g2⟩ := ih (fun u hu => h1 u (List.mem_cons_of_mem t hu)) (by simpa using h) (by simpa using h2)
      rw [qfb, endT, if_neg ht, if_neg ht, g1, g2]
      exact ⟨rfl, rfl⟩
theorem q7b {l : List T} (h1 : ∀ t ∈ l, t.kind ≠ 0) : qfb l = l ∧ endT l = 0 := by
  induction l with
  | nil => exact ⟨rfl, rfl⟩
  | cons t r ih =>
    obtain ⟨g1, g2⟩ := ih fun u hu => h1 u (by simp [hu])
    rw [qfb, endT, if_neg (h1 t (by simp)), if_neg (h1 t (by simp)), g1, g2]
    exact ⟨rfl, rfl⟩
theorem qk2 {a : List T} {i : Nat} (h : i < a.length) {p : T → Prop} (h1 : ∀ t ∈ a.take i, p t) (h2 : p (a.getD i T0)) : ∀ t ∈ a.take (i + 1), p t := by
  intro t ht
  rw [List.take_add_one, List.getElem?_eq_getElem h] at ht
  rcases List.mem_append.1 ht with ht | ht
  · exact h1 t ht
  · simp only [Option.toList_some, List.mem_singleton] at ht
    subst ht
    rwa [List.getD_eq_getElem?_getD, List.getElem?_eq_getElem h] at h2
theorem qbti (x : Ent) (es : List AV) : co (x :: accE 4 es) (.sl 4) (accV 1 es) = .sl 4 es := by
  cases es with
  | nil => rw [qbq, qrd]
  | cons e es =>
    rw [qby (by simp), qun, qbz (by simp)]
    simp only [ent, q7z, if_true]
def q55 (l : List T) (i : Nat) : AF × List Ent :=
  (⟨[(3, .ptr 0 0), (8, .sl 4 (qd4 l)), (9, .int .i64 l.length), (10, .int .i64 i)], []⟩,
    .blk [accV 1 (qd4 (l.take i)), .int .i64 0, .int .i64 0, .int .i64 0, .str [], .int .i64 0, .int .i64 0, .int .i64 0, .int .i64 0] :: accE 4 (qd4 (l.take i)))
theorem qvp {l : List T} (h : l ≠ []) : qd4 l ≠ [] := by cases l with | nil => exact absurd rfl h | cons _ _ => simp [qd4]
theorem q2c {l : List T} {i : Nat} (h : i < l.length) : l.take (i + 1) = l.take i ++ [l.getD i T0] := by
  rw [List.take_add_one, List.getElem?_eq_getElem h, List.getD_eq_getElem?_getD, List.getElem?_eq_getElem h]; rfl
theorem capT {n : Nat} (h : n ≤ 1048580) : qp n 40 := by unfold qp; omega
theorem q86 (l : List T) (hl : l.length ≤ 1048577) : VCalls Try.prog 22 [] [.sl 4 (qd4 l)] fun H' o => H' = [curE (newK l)] ∧ o = .val (.ptr 0 0) := by
  refine qx c0bb 1 (by simp) (by simp) ?_
  have hmx : (1048577 : Nat) ≤ maxLen := by unfold maxLen; omega
  repeat' (first | refine qj ?_ | refine ql ?_ | ((first | refine qn ?_ | refine qcm (by rfl) ?_ | refine qba ?_ | refine qk ?_ | refine qu ?_ | refine qh ?_ | refine qg ?_ | ((first | refine qe ?_ ?_ | refine qd ?_ ?_) <;> intro hc <;> (try simp only [hc]) <;> (try simp only [qb, qa, decide_eq_true_eq, decide_eq_false_iff_not, Bool.and_eq_true] at hc)) | refine And.intro (by first | assumption | omega | (have := qf (by assumption); omega) | (unfold qp; omega)) ?_ | simp (disch := omega) only [qc] | simp (disch := omega) only [qo]) <;> (try simp only [go_sem, ↓reduceIte, Nat.reduceEqDiff, Nat.reduceAdd, Nat.reduceSub, Nat.reduceMul, Nat.reduceLT, Nat.reduceLeDiff, reduceCtorEq, Int.reduceToNat])))
  refine qcy (S := Nat) (fun i => i ≤ l.length ∧ ∀ t ∈ l.take i, t.kind ≠ 0) (q55 l) (fun i => l.length - i) ?_ fun i hi => ?_
  · refine qcd 0 [0] ⟨Nat.zero_le _, by simp⟩ rfl (by simp) ?_ ?_ ?_ <;> simp only [q55, List.take_zero, qwh, qbq, qbt] <;> (try simp only [go_sem, ↓reduceIte, Nat.reduceEqDiff, Nat.reduceAdd, Nat.reduceSub, Nat.reduceMul, Nat.reduceLT, Nat.reduceLeDiff, reduceCtorEq, Int.reduceToNat]) <;> (try simp (disch := omega) only [qo])
  · obtain ⟨hi, ha⟩ := hi
    unfold q55
    by_cases hx : i < l.length ∧ (l.getD i T0).kind ≠ 0
    · have hT : AV.agg [.int .i64 (l.getD i T0).kind, .int .i64 (l.getD i T0).pos, .int .i64 (l.getD i T0).num, .str (l.getD i T0).text] = encT (l.getD i T0) := rfl
      have hts := q2c hx.1
      have hne : qd4 (l.take (i + 1)) ≠ [] := qvp (by rw [hts]; simp)
      have hlen : (l.take (i + 1)).length = i + 1 := by rw [List.length_take]; omega
      by_cases h0 : i = 0
      · subst h0
        simp only [List.take_zero, qwh, qbq, qbt]
        repeat' (first | refine qj ?_ | refine ql ?_ | ((first | refine qn ?_ | refine qcm (by rfl) ?_ | refine qba ?_ | refine qk ?_ | refine qu ?_ | refine qh ?_ | refine qg ?_ | simp (disch := omega) only [qgg] | ((first | refine qe ?_ ?_ | refine qd ?_ ?_) <;> intro hc <;> (try simp only [hc]) <;> (try simp only [qb, qa, decide_eq_true_eq, decide_eq_false_iff_not, Bool.and_eq_true] at hc)) | refine And.intro (by first | assumption | omega | (have := qf (by assumption); omega) | (unfold qp; omega)) ?_ | simp (disch := omega) only [qc] | simp (disch := omega) only [qo]) <;> (try simp only [go_sem, ↓reduceIte, Nat.reduceEqDiff, Nat.reduceAdd, Nat.reduceSub, Nat.reduceMul, Nat.reduceLT, Nat.reduceLeDiff, reduceCtorEq, Int.reduceToNat])))
        · exact absurd (by assumption) hx.2
        · refine qcd 1 [0, 2] ⟨⟨by omega, qk2 (by omega) ha hx.2⟩, by omega⟩ rfl (by simp) ?_ ?_ ?_
          all_goals simp only [q55, qby hne, qbz hne, qlf, hlen]
          all_goals (try simp only [Nat.zero_add] at hts)
          all_goals simp only [hts, List.take_zero, List.nil_append]
          all_goals simp only [go_sem, ↓reduceIte, Nat.reduceEqDiff, Nat.reduceAdd, Nat.reduceSub, Nat.reduceMul, Nat.reduceLT, Nat.reduceLeDiff, reduceCtorEq, Int.reduceToNat]
          all_goals first | exact ⟨rfl, rfl⟩ | exact congrArg _ (by decide) | rfl | trace_state
        · omega
      · have hne0 : qd4 (l.take i) ≠ [] := qvp (by intro e; have := congrArg List.length e; simp only [List.length_take, List.length_nil] at this; omega)
        have hli : (l.take i).length = i := by rw [List.length_take]; omega
        simp only [qby hne0, qbz hne0, qlf]
        have hat : ∀ ac : List T, ac = l.take i → qd4 ac ++ [encT (l.getD i T0)] = qd4 (l.take (i + 1)) := fun ac e => by rw [e, qpm, hts]
        generalize hac : l.take i = ac at *
        have hcap : qp (ac.length + 1) 40 := capT (by omega)
        have hil : (i : Int) < l.length := by omega
        have hkd := hx.2
        repeat' (first | refine qj ?_ | refine ql ?_ | ((first | refine qn ?_ | refine qcm (by rfl) ?_ | refine qba ?_ | refine qk ?_ | refine qu ?_ | refine qh ?_ | refine qg ?_) <;> (try simp (disch := first | omega | (simp only [List.length_set, List.length_append, List.length_cons, List.length_nil]; done) | (simp only [List.length_set, List.length_append, List.length_cons, List.length_nil]; omega)) only [hil, hkd, qgg, ne_eq, go_sem, ↓reduceIte, Nat.reduceEqDiff, Nat.reduceAdd, Nat.reduceSub, Nat.reduceMul, Nat.reduceLT, Nat.reduceLeDiff, reduceCtorEq, Int.reduceToNat])) | ((first | ((first | refine qe ?_ ?_ | refine qd ?_ ?_) <;> intro hc <;> (try simp only [hc]) <;> (try simp only [qb, qa, decide_eq_true_eq, decide_eq_false_iff_not, Bool.and_eq_true] at hc)) | refine And.intro (by first | assumption | omega | (have := qf (by assumption); omega) | (unfold qp; omega)) ?_ | simp (disch := omega) only [qc] | simp (disch := omega) only [qo]) <;> (try simp only [go_sem, ↓reduceIte, Nat.reduceEqDiff, Nat.reduceAdd, Nat.reduceSub, Nat.reduceMul, Nat.reduceLT, Nat.reduceLeDiff, reduceCtorEq, Int.reduceToNat])))
        · refine qcd (i + 1) [0, 3] ⟨⟨by omega, qk2 (by omega) (by rw [hac]; exact ha) hx.2⟩, by omega⟩ rfl (by simp) ?_ ?_ ?_
          all_goals simp only [q55, qby hne, qbz hne, qlf, hlen]
          all_goals rw [← hat ac rfl]
          all_goals simp only [go_sem, ↓reduceIte, Nat.reduceEqDiff, Nat.reduceAdd, Nat.reduceSub, Nat.reduceMul, Nat.reduceLT, Nat.reduceLeDiff, reduceCtorEq, Int.reduceToNat]
          rw [hli, qpm ac, qpg]
          exact ⟨rfl, qld _ _, rfl⟩
    · refine q4i 0 0 (.sl 4) rfl ?_
      simp only [List.set_cons_zero, List.getD_cons_zero, qbti]
      repeat' (first | refine qj ?_ | refine ql ?_ | ((first | refine qn ?_ | refine qcm (by rfl) ?_ | refine qba ?_ | refine qk ?_ | refine qu ?_ | refine qh ?_ | refine qg ?_ | simp (disch := omega) only [qgg] | ((first | refine qe ?_ ?_ | refine qd ?_ ?_) <;> intro hc <;> (try simp only [hc]) <;> (try simp only [qb, qa, decide_eq_true_eq, decide_eq_false_iff_not, Bool.and_eq_true] at hc)) | refine And.intro (by first | assumption | omega | (have := qf (by assumption); omega) | (unfold qp; omega)) ?_ | simp (disch := omega) only [qc] | simp (disch := omega) only [qo]) <;> (try simp only [go_sem, ↓reduceIte, Nat.reduceEqDiff, Nat.reduceAdd, Nat.reduceSub, Nat.reduceMul, Nat.reduceLT, Nat.reduceLeDiff, reduceCtorEq, Int.reduceToNat])))
      · obtain ⟨g1, g2⟩ := q54 ha (by omega) (by assumption)
        rw [newK, g1, g2]; rfl
      · exact hx ⟨by omega, by assumption⟩
      · rw [List.take_of_length_le (by omega)] at ha ⊢
        obtain ⟨g1, g2⟩ := q7b ha
        rw [newK, g1, g2]; rfl
end Go.Proofs.Ytfjbmjplnmaclaa
