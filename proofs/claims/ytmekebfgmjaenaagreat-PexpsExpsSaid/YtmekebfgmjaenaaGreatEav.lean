/- Texts of this proof, joined. -/
import Derived.Test.YtmekebfgmjaenaaGreatEat
import Derived.Test.YtmekebfgmjaenaaGreatEau

/- the cursor: what it is, what its methods do -/
set_option maxRecDepth 4000
namespace Go.Proofs.YtmekebfgmjaenaaGreat
open Go Go.RowKit Go.V
set_option linter.unusedVariables false
set_option linter.unusedSimpArgs false

attribute [go_sem] cond_true cond_false
/-- A cursor. -/
structure K where
  l : List T
  ep : Int
  at' : Nat
  nest : Nat
  err : Int
  pos : Int
def K.ok (c : K) : Prop := c.at' ≤ c.l.length ∧ c.l.length ≤ maxLen
def curE (c : K) : Ent := .blk [.sl 4 (qcr c.l), .int .i64 0, .int .i64 c.ep, .int .i64 0, .str [], .int .i64 c.at', .int .i64 c.nest, .int .i64 c.err, .int .i64 c.pos]
def K.bad (c : K) : Bool := !decide (c.err = 0)
theorem qhg {c : K} (h : c.bad = false) : c.err = 0 := by simpa [K.bad] using h
theorem qhu {c : K} (h : c.bad = true) : ¬ c.err = 0 := by simpa [K.bad] using h
def qbd (c : K) : T := if c.err = 0 then if c.at' < c.l.length then c.l.getD c.at' T0 else ⟨0, c.ep, 0, []⟩ else T0
def q9 (c : K) : K := if c.err = 0 then if c.at' < c.l.length then { c with at' := c.at' + 1 } else c else c
def qiv (t : T) (s : List UInt8) : Bool := (decide (t.kind = 4) || decide (t.kind = 5)) && decide (t.text = s)
def isK (c : K) (s : List UInt8) : Bool := decide (c.err = 0) && qiv (qbd c) s
def qe6 (c : K) (e : Int) : K := if c.err = 0 then { c with err := if e = 0 then 1 else e, pos := (qbd c).pos } else c
def qt (c : K) (s : List UInt8) : K × Bool := if isK c s = true then (q9 c, true) else (c, false)
def qv (c : K) (s : List UInt8) : K × Bool := if isK c s = true then (q9 c, true) else (qe6 c 5, false)
def qj (c : K) : K × Bool := if c.err = 0 then if c.nest < 200 then ({ c with nest := c.nest + 1 }, true) else (qe6 c 2, false) else (c, false)
def qch (c : K) : K := if c.err = 0 then if 0 < c.nest then { c with nest := c.nest - 1 } else c else c
def qjc (c : K) : Int × Int := if c.err = 0 then if c.at' < c.l.length then ((c.l.getD c.at' T0).pos, 5) else (c.ep, 0) else (c.pos, c.err)

theorem qbm (k : Nat) (c : K) : (curE c).bd k = true := by
  simp only [curE, Ent.bd, AV.bds, AV.bd, qhk, Bool.and_true]
theorem qno (σ : Nat → Nat) (c : K) : (curE c).ren σ = curE c := Ent.ren_same (m := 0) (fun i hi => by omega) _ (qbm 0 c)
attribute [go_sem] curE
/-- A call that leaves the first entry so. -/
def qcp (P : Program) (f : FuncId) (e e' : Ent) (args : List AV) (r : AV) : Prop := VCalls P f [e] args fun H' o => H' = [e'] ∧ o = .val r
section
variable {P : Program} {f : FuncId} {e e' : Ent} {L : List Ent} {args : List AV} {r : AV} {Q : List Ent → VO → Prop}
theorem qb9 (h : qcp P f e e' args r) (hb : e.bd 1 = true) (hb' : e'.bd 1 = true) (ha : AV.bds 1 args = true) (hr : r.bd 1 = true) (hq : r.wf → Q (e' :: L) (.val r)) : VApp P (e :: L) (.fn f [] []) args Q :=
  qhw (first := []) (caps := []) (by
    simp only [List.nil_append, List.append_nil]
    refine qju (H0 := [e]) (L := L) (h.mono' (Q' := fun H' o => (H' = [e'] ∧ o = .val r) ∧ r.wf) fun H' o hw ho => ⟨ho, by have := ho.2; subst this; exact hw⟩) (by simp [hb]) ha ?_
    rintro H1 o ⟨⟨rfl, rfl⟩, hw⟩
    exact ⟨rfl, by simp [hb'], hr, hq hw⟩)
theorem q4u (h : qcp P f e e args r) (hb : e.bd 1 = true) (ha : AV.bds 1 args = true) (hr : r.bd 1 = true) {Kk : Md → AV → List Ent → Prop} (hq : r.wf → Kk .here r (e :: L)) (hw : r.wf) : DApp P (e :: L) (.fn f [] []) args Kk :=
  .inl ⟨r, qb9 h hb hb ha hr fun _ => ⟨rfl, rfl⟩, hq hw⟩
/-- A call that changes the first entry, wherever else it is made. -/
theorem qb1v (h : qcp P f e e' args r) (hb : e.bd 1 = true) (hb' : e'.bd 1 = true) (ha : AV.bds 1 args = true) (hr : r.bd 1 = true) (hn : e ≠ .dead) {Kk : Md → AV → List Ent → Prop} (hq : Kk (.meth 0 e e') r (e' :: L)) : DApp P (e :: L) (.fn f [] []) args Kk :=
  .inr (.inr ⟨r, 0, e, e', ⟨hn, rfl, fun H₀ h0 => by
    cases H₀ with
    | nil => exact absurd h0.symm hn
    | cons x L' =>
      cases (show x = e from h0)
      exact qb9 h hb hb' ha hr fun _ => ⟨rfl, rfl⟩⟩, hq⟩)
end

theorem qqy (c : K) : qcp Tryz.prog 36 (curE c) (curE c) [.ptr 0 0] (.bool c.bad) := by
  refine qbe c0cl 1 (by simp) (by simp) ?_
  unfold K.bad
  repeat' (first | refine ql ?_ | ((first | refine qn ?_ | refine qm ?_); simp only [go_sem, ↓reduceIte, Nat.reduceEqDiff, Nat.reduceAdd, Nat.reduceSub, Nat.reduceMul, Nat.reduceLT, Nat.reduceLeDiff, reduceCtorEq, Int.reduceToNat]) | ((first | refine qf ?_ ?_ | refine qe ?_ ?_) <;> intro hc <;> simp only [hc, go_sem, ↓reduceIte, Nat.reduceEqDiff, Nat.reduceAdd, Nat.reduceSub, Nat.reduceMul, Nat.reduceLT, Nat.reduceLeDiff, reduceCtorEq, Int.reduceToNat] <;> (try simp only [qb, qa, decide_eq_true_eq, decide_eq_false_iff_not, Bool.and_eq_true] at hc)) | refine And.intro (by first | assumption | omega | (have := qg (by assumption); omega) | (unfold qp; omega)) ?_ | fail)
section
variable {c : K} {L : List Ent} {Q : List Ent → VO → Prop} {Kk : Md → AV → List Ent → Prop}
theorem qhh (h : Q (curE c :: L) (.val (.bool c.bad))) : VApp Tryz.prog (curE c :: L) (.fn 36 [] []) [.ptr 0 0] Q := qb9 (qqy c) (qbm _ _) (qbm _ _) rfl rfl fun _ => h
theorem qbbu (h : Kk .here (.bool c.bad) (curE c :: L)) : DApp Tryz.prog (curE c :: L) (.fn 36 [] []) [.ptr 0 0] Kk := q4u (qqy c) (qbm _ _) rfl rfl (fun _ => h) trivial
end
section
variable {c : K}
theorem qfo (h : ¬ c.err = 0) : qbd c = T0 := if_neg h
theorem qsg (h : c.err = 0) (h2 : (c.at' : Int) < c.l.length) : qbd c = c.l.getD c.at' T0 := by rw [qbd, if_pos h, if_pos (by omega)]
theorem qtt (h : c.err = 0) (h2 : ¬ (c.at' : Int) < c.l.length) : qbd c = ⟨0, c.ep, 0, []⟩ := by rw [qbd, if_pos h, if_neg (by omega)]
theorem qts (h : ¬ c.err = 0) : q9 c = c := if_neg h
theorem qse (h : c.err = 0) (h2 : (c.at' : Int) < c.l.length) : q9 c = { c with at' := c.at' + 1 } := by rw [q9, if_pos h, if_pos (by omega)]
theorem qtl (h : c.err = 0) (h2 : ¬ (c.at' : Int) < c.l.length) : q9 c = c := by rw [q9, if_pos h, if_neg (by omega)]
theorem qf8 {e : Int} (h : ¬ c.err = 0) : qe6 c e = c := if_neg h
theorem q0r (h : c.err = 0) : qe6 c 0 = { c with err := 1, pos := (qbd c).pos } := by rw [qe6, if_pos h, if_pos rfl]
theorem q1f {e : Int} (h : c.err = 0) (he : ¬ e = 0) : qe6 c e = { c with err := e, pos := (qbd c).pos } := by rw [qe6, if_pos h, if_neg he]
end
section
variable {c : K} {x : List UInt8}
theorem q33 (h : isK c x = true) : qt c x = (q9 c, true) := if_pos h
theorem qvc (h : isK c x = false) : qt c x = (c, false) := by rw [qt, h]; rfl
theorem q00 (h : (qt c x).2 = true) : qv c x = ((qt c x).1, true) := by
  unfold qt qv at *
  split at h
  · rename_i h1; rw [if_pos h1, if_pos h1]
  · cases h
theorem q23 (h : (qt c x).2 = false) : qv c x = (qe6 (qt c x).1 5, false) := by
  unfold qt qv at *
  split at h
  · cases h
  · rename_i h1; rw [if_neg h1, if_neg h1]
theorem qh0 (h : ¬ c.err = 0) : qj c = (c, false) := if_neg h
theorem qur (h : c.err = 0) (h2 : ¬ (200 : Int) ≤ c.nest) : qj c = ({ c with nest := c.nest + 1 }, true) := by rw [qj, if_pos h, if_pos (by omega)]
theorem qo0 (h : c.err = 0) (h2 : (200 : Int) ≤ c.nest) : qj c = (qe6 c 2, false) := by rw [qj, if_pos h, if_neg (by omega)]
theorem qp6 (h : ¬ c.err = 0) : qch c = c := if_neg h
theorem qs0 (h : c.err = 0) (h2 : (0 : Int) < c.nest) : qch c = { c with nest := c.nest - 1 } := by rw [qch, if_pos h, if_pos (by omega)]
theorem qw7 (h : c.err = 0) (h2 : ¬ (0 : Int) < c.nest) : qch c = c := by rw [qch, if_pos h, if_neg (by omega)]
theorem qlj (h : ¬ c.err = 0) : qjc c = (c.pos, c.err) := if_neg h
theorem qrj (h : c.err = 0) (h2 : (c.at' : Int) < c.l.length) : qjc c = ((c.l.getD c.at' T0).pos, 5) := by rw [qjc, if_pos h, if_pos (by omega)]
theorem qn8 (h : c.err = 0) (h2 : ¬ (c.at' : Int) < c.l.length) : qjc c = (c.ep, 0) := by rw [qjc, if_pos h, if_neg (by omega)]
end
theorem q9s (c : K) : qcp Tryz.prog 15 (curE c) (curE c) [.ptr 0 0] (encT (qbd c)) := by
  refine qbe c0cm 1 (by simp) (by simp) ?_
  repeat' (first | refine ql ?_ | refine qk ?_ | ((first | refine qn ?_ | refine qbc (by rfl) ?_ | refine qy ?_ | refine qm ?_ | refine qi ?_ | refine qh ?_ | refine qhh ?_); simp only [go_sem, ↓reduceIte, Nat.reduceEqDiff, Nat.reduceAdd, Nat.reduceSub, Nat.reduceMul, Nat.reduceLT, Nat.reduceLeDiff, reduceCtorEq, Int.reduceToNat]) | ((first | simp (disch := omega) only [qds]); (try simp only [go_sem, ↓reduceIte, Nat.reduceEqDiff, Nat.reduceAdd, Nat.reduceSub, Nat.reduceMul, Nat.reduceLT, Nat.reduceLeDiff, reduceCtorEq, Int.reduceToNat])) | ((first | refine qf ?_ ?_ | refine qe ?_ ?_) <;> intro hc <;> simp only [hc, go_sem, ↓reduceIte, Nat.reduceEqDiff, Nat.reduceAdd, Nat.reduceSub, Nat.reduceMul, Nat.reduceLT, Nat.reduceLeDiff, reduceCtorEq, Int.reduceToNat] <;> (try simp only [qb, qa, decide_eq_true_eq, decide_eq_false_iff_not, Bool.and_eq_true] at hc)) | refine And.intro (by first | assumption | omega | (have := qg (by assumption); omega) | (unfold qp; omega)) ?_ | ((first | simp (disch := omega) only [qr] | simp (disch := omega) only [qbb]); (try simp only [go_sem, ↓reduceIte, Nat.reduceEqDiff, Nat.reduceAdd, Nat.reduceSub, Nat.reduceMul, Nat.reduceLT, Nat.reduceLeDiff, reduceCtorEq, Int.reduceToNat])))
  · rw [qfo (qhu (by assumption))]; rfl
  · rw [qsg (qhg (by assumption)) (by assumption)]
  · rw [qtt (qhg (by assumption)) (by assumption)]; rfl
section
variable {c : K} {L : List Ent} {Q : List Ent → VO → Prop} {Kk : Md → AV → List Ent → Prop}
theorem qdv (h : Q (curE c :: L) (.val (encT (qbd c)))) : VApp Tryz.prog (curE c :: L) (.fn 15 [] []) [.ptr 0 0] Q := qb9 (q9s c) (qbm _ _) (qbm _ _) rfl rfl fun _ => h
end
def qdq (t : T) (ls : List (List UInt8)) : Bool := (decide (t.kind = 4) || decide (t.kind = 5)) && ls.contains t.text
theorem q2h (t : T) (ls : List (List UInt8)) : qbf Tryz.prog 79 [encT t, .sl 1 (ls.map AV.str)] (.bool (qdq t ls)) := by
  refine qu c0cn (by simp) (by simp only [go_sem]) rfl fun hw => ?_
  have h1 : ls.length ≤ maxLen := by have := hw.2.1.1; rwa [qw9] at this
  have loop : ∀ (Q : VE → AF → List Ent → Prop) (tm : List (Nat × AV)) (H : List Ent), qdq t ls = ls.contains t.text → H = [.blk [.int .i64 t.kind, .int .i64 t.pos, .int .i64 t.num, .str t.text]] →
      (get tm 2 = .ptr 0 0 ∧ get tm 15 = .sl 1 (ls.map AV.str) ∧ get tm 16 = .int .i64 ls.length ∧ get tm 17 = .int .i64 0) →
      Q = blq 0 (sq Tryz.prog none 26 0 (k0cn_r11.seq IC.ret) (retq 0 [(RV.t 4, Co.id)] fun H' o => o = VO.val (AV.bool (qdq t ls)))) →
      VI Tryz.prog none 26 0 k0cn_l4.loop Q ⟨tm, []⟩ H := by
    rintro Q tm H hwd rfl ⟨h2, h15, h16, h17⟩ rfl
    rw [hwd]
    refine qby (S := Nat) (fun i => i ≤ ls.length ∧ ls.contains t.text = (ls.drop i).contains t.text) (fun i => (⟨[(2, .ptr 0 0), (15, .sl 1 (ls.map AV.str)), (16, .int .i64 ls.length), (17, .int .i64 i)], []⟩, [.blk [.int .i64 t.kind, .int .i64 t.pos, .int .i64 t.num, .str t.text]])) (fun i => ls.length - i) ?_ fun i hi => ?_
    · refine qbn 0 [0] ⟨Nat.zero_le _, rfl⟩ rfl (by simp) ?_ ?_ ?_ <;> (try simp only [go_sem, ↓reduceIte, Nat.reduceEqDiff, Nat.reduceAdd, Nat.reduceSub, Nat.reduceMul, Nat.reduceLT, Nat.reduceLeDiff, reduceCtorEq, Int.reduceToNat]) <;> (try simp (disch := omega) only [qbb])
      exact ⟨h2, h15, h16, h17⟩
    · obtain ⟨hi, ha⟩ := hi
      repeat' (first | refine ql ?_ | refine qk ?_ | ((first | refine qn ?_ | refine qm ?_ | refine qs ?_ | refine qi ?_ | refine qh ?_); simp only [go_sem, ↓reduceIte, Nat.reduceEqDiff, Nat.reduceAdd, Nat.reduceSub, Nat.reduceMul, Nat.reduceLT, Nat.reduceLeDiff, reduceCtorEq, Int.reduceToNat]) | ((first | simp (disch := omega) only [qtz]); (try simp only [go_sem, ↓reduceIte, Nat.reduceEqDiff, Nat.reduceAdd, Nat.reduceSub, Nat.reduceMul, Nat.reduceLT, Nat.reduceLeDiff, reduceCtorEq, Int.reduceToNat])) | ((first | refine qf ?_ ?_ | refine qe ?_ ?_) <;> intro hc <;> simp only [hc, go_sem, ↓reduceIte, Nat.reduceEqDiff, Nat.reduceAdd, Nat.reduceSub, Nat.reduceMul, Nat.reduceLT, Nat.reduceLeDiff, reduceCtorEq, Int.reduceToNat] <;> (try simp only [qb, qa, decide_eq_true_eq, decide_eq_false_iff_not, Bool.and_eq_true] at hc)) | refine And.intro (by first | assumption | omega | (have := qg (by assumption); omega) | (unfold qp; omega)) ?_ | ((first | simp (disch := omega) only [qr] | simp (disch := omega) only [qbb]); (try simp only [go_sem, ↓reduceIte, Nat.reduceEqDiff, Nat.reduceAdd, Nat.reduceSub, Nat.reduceMul, Nat.reduceLT, Nat.reduceLeDiff, reduceCtorEq, Int.reduceToNat])))
      · rw [ha, qo2 (i := i) (by omega), List.contains_cons, hc]; simp
      · refine qbn (i + 1) [0] ⟨⟨by omega, ?_⟩, by omega⟩ rfl (by simp) ?_ ?_ ?_ <;> (try simp only [go_sem, ↓reduceIte, Nat.reduceEqDiff, Nat.reduceAdd, Nat.reduceSub, Nat.reduceMul, Nat.reduceLT, Nat.reduceLeDiff, reduceCtorEq, Int.reduceToNat]) <;> (try simp (disch := omega) only [qbb])
        rw [ha, qo2 (i := i) (by omega), List.contains_cons, beq_eq_false_iff_ne.2 hc, Bool.false_or]
      · rw [ha, List.drop_of_length_le (by omega)]; rfl
  repeat' (first | refine ql ?_ | refine qk ?_ | ((first | refine qn ?_ | refine qm ?_ | refine qs ?_ | refine qi ?_ | refine qh ?_); simp only [go_sem, ↓reduceIte, Nat.reduceEqDiff, Nat.reduceAdd, Nat.reduceSub, Nat.reduceMul, Nat.reduceLT, Nat.reduceLeDiff, reduceCtorEq, Int.reduceToNat]) | ((first | refine qf ?_ ?_ | refine qe ?_ ?_) <;> intro hc <;> simp only [hc, go_sem, ↓reduceIte, Nat.reduceEqDiff, Nat.reduceAdd, Nat.reduceSub, Nat.reduceMul, Nat.reduceLT, Nat.reduceLeDiff, reduceCtorEq, Int.reduceToNat] <;> (try simp only [qb, qa, decide_eq_true_eq, decide_eq_false_iff_not, Bool.and_eq_true] at hc)) | refine And.intro (by first | assumption | omega | (have := qg (by assumption); omega) | (unfold qp; omega)) ?_ | ((first | simp (disch := omega) only [qr] | simp (disch := omega) only [qbb]); (try simp only [go_sem, ↓reduceIte, Nat.reduceEqDiff, Nat.reduceAdd, Nat.reduceSub, Nat.reduceMul, Nat.reduceLT, Nat.reduceLeDiff, reduceCtorEq, Int.reduceToNat])))
  · rw [show qdq t ls = false by simp [qdq, *]]
  · exact loop _ _ _ (by simp [qdq, *]) rfl ⟨rfl, rfl, rfl, rfl⟩ rfl
  · exact loop _ _ _ (by simp [qdq, *]) rfl ⟨rfl, rfl, rfl, rfl⟩ rfl
theorem qbce (t : T) (x : List UInt8) : qdq t [x] = qiv t x := by
  unfold qdq qiv
  congr 1
  by_cases h : t.text = x
  · simp [h]
  · simp [h]
theorem qsk (t : T) (x : List UInt8) : qbf Tryz.prog 79 [encT t, .sl 1 [.str x]] (.bool (qiv t x)) := by
  rw [← qbce]; exact q2h t [x]
theorem q6e (c : K) (hk : c.ok) : qcp Tryz.prog 44 (curE c) (curE (q9 c)) [.ptr 0 0] (encT (qbd c)) := by
  refine qbe c0co 1 (by simp) (by simp) ?_
  have h1 := hk.1
  have h2 := hk.2
  repeat' (first | refine ql ?_ | ((first | refine qn ?_ | refine qbc (by rfl) ?_ | refine qy ?_ | refine qm ?_ | refine qi ?_ | refine qh ?_ | refine qhh ?_ | refine qbbu ?_ | refine qdv ?_); simp only [go_sem, ↓reduceIte, Nat.reduceEqDiff, Nat.reduceAdd, Nat.reduceSub, Nat.reduceMul, Nat.reduceLT, Nat.reduceLeDiff, reduceCtorEq, Int.reduceToNat]) | ((first | simp (disch := omega) only [qbb]); (try simp only [go_sem, ↓reduceIte, Nat.reduceEqDiff, Nat.reduceAdd, Nat.reduceSub, Nat.reduceMul, Nat.reduceLT, Nat.reduceLeDiff, reduceCtorEq, Int.reduceToNat])) | ((first | refine qf ?_ ?_ | refine qe ?_ ?_) <;> intro hc <;> simp only [hc, go_sem, ↓reduceIte, Nat.reduceEqDiff, Nat.reduceAdd, Nat.reduceSub, Nat.reduceMul, Nat.reduceLT, Nat.reduceLeDiff, reduceCtorEq, Int.reduceToNat] <;> (try simp only [qb, qa, decide_eq_true_eq, decide_eq_false_iff_not, Bool.and_eq_true] at hc)) | refine And.intro (by first | assumption | omega | (have := qg (by assumption); omega) | (unfold qp; omega)) ?_ | ((first | simp (disch := omega) only [qr] | simp (disch := omega) only [qbb]); (try simp only [go_sem, ↓reduceIte, Nat.reduceEqDiff, Nat.reduceAdd, Nat.reduceSub, Nat.reduceMul, Nat.reduceLT, Nat.reduceLeDiff, reduceCtorEq, Int.reduceToNat])))
  · rw [qse (qhg (by assumption)) (by assumption)]
  · rw [qtl (qhg (by assumption)) (by assumption)]
  · rw [qts (qhu (by assumption))]
section
variable {c : K} {L : List Ent} {Q : List Ent → VO → Prop} {Kk : Md → AV → List Ent → Prop} {x : List UInt8} {e : Int}
theorem qi8 (hk : c.ok) (h : Q (curE (q9 c) :: L) (.val (encT (qbd c)))) : VApp Tryz.prog (curE c :: L) (.fn 44 [] []) [.ptr 0 0] Q := qb9 (q6e c hk) (qbm _ _) (qbm _ _) rfl rfl fun _ => h
theorem qbzz (c : K) (x : List UInt8) : qcp Tryz.prog 45 (curE c) (curE c) [.ptr 0 0, .str x] (.bool (isK c x)) := by
  refine qbe c0cp 1 (by simp) (by simp) ?_
  repeat' (first | refine ql ?_ | ((first | refine qn ?_ | refine qm ?_ | refine qhh ?_ | refine qdv ?_ | refine qc (qsk _ _) fun _ => ?_ | refine qd  (qsk _ _) ?_); simp only [go_sem, ↓reduceIte, Nat.reduceEqDiff, Nat.reduceAdd, Nat.reduceSub, Nat.reduceMul, Nat.reduceLT, Nat.reduceLeDiff, reduceCtorEq, Int.reduceToNat]) | ((first | refine qf ?_ ?_ | refine qe ?_ ?_) <;> intro hc <;> simp only [hc, go_sem, ↓reduceIte, Nat.reduceEqDiff, Nat.reduceAdd, Nat.reduceSub, Nat.reduceMul, Nat.reduceLT, Nat.reduceLeDiff, reduceCtorEq, Int.reduceToNat] <;> (try simp only [qb, qa, decide_eq_true_eq, decide_eq_false_iff_not, Bool.and_eq_true] at hc)) | refine And.intro (by first | assumption | omega | (have := qg (by assumption); omega) | (unfold qp; omega)) ?_ | fail)
  · rw [isK, decide_eq_true (qhg (by assumption))]; rfl
  · rw [isK, decide_eq_false (qhu (by assumption))]; rfl
theorem a_Is (h : Q (curE c :: L) (.val (.bool (isK c x)))) : VApp Tryz.prog (curE c :: L) (.fn 45 [] []) [.ptr 0 0, .str x] Q := qb9 (qbzz c x) (qbm _ _) (qbm _ _) rfl rfl fun _ => h
theorem qxl (c : K) (e : Int) : qcp Tryz.prog 43 (curE c) (curE (qe6 c e)) [.ptr 0 0, .int .i64 e] (.bool false) := by
  refine qbe c0cq 1 (by simp) (by simp) ?_
  repeat' (first | refine ql ?_ | ((first | refine qn ?_ | refine qm ?_ | refine qi ?_ | refine qh ?_ | refine qhh ?_ | refine qdv ?_); simp only [go_sem, ↓reduceIte, Nat.reduceEqDiff, Nat.reduceAdd, Nat.reduceSub, Nat.reduceMul, Nat.reduceLT, Nat.reduceLeDiff, reduceCtorEq, Int.reduceToNat]) | ((first | refine qf ?_ ?_ | refine qe ?_ ?_) <;> intro hc <;> simp only [hc, go_sem, ↓reduceIte, Nat.reduceEqDiff, Nat.reduceAdd, Nat.reduceSub, Nat.reduceMul, Nat.reduceLT, Nat.reduceLeDiff, reduceCtorEq, Int.reduceToNat] <;> (try simp only [qb, qa, decide_eq_true_eq, decide_eq_false_iff_not, Bool.and_eq_true] at hc)) | refine And.intro (by first | assumption | omega | (have := qg (by assumption); omega) | (unfold qp; omega)) ?_ | fail)
  · subst hc; rw [q0r (qhg (by assumption))]
  · rw [q1f (qhg (by assumption)) (by assumption)]
  · rw [qf8 (qhu (by assumption))]
theorem qqb (h : Q (curE (qe6 c e) :: L) (.val (.bool false))) : VApp Tryz.prog (curE c :: L) (.fn 43 [] []) [.ptr 0 0, .int .i64 e] Q := qb9 (qxl c e) (qbm _ _) (qbm _ _) rfl rfl fun _ => h
theorem qb0n {Kk : Md → AV → List Ent → Prop} (h : Kk (.meth 0 (curE c) (curE (qe6 c e))) (.bool false) (curE (qe6 c e) :: L)) : DApp Tryz.prog (curE c :: L) (.fn 43 [] []) [.ptr 0 0, .int .i64 e] Kk := qb1v (qxl c e) (qbm _ _) (qbm _ _) rfl rfl (by simp [curE]) h
theorem q9v (c : K) (hk : c.ok) (x : List UInt8) : qcp Tryz.prog 21 (curE c) (curE (qt c x).1) [.ptr 0 0, .str x] (.bool (qt c x).2) := by
  refine qbe c0cr 1 (by simp) (by simp) ?_
  repeat' (first | refine ql ?_ | ((first | refine qn ?_ | refine qm ?_ | refine qi ?_ | refine qh ?_ | refine a_Is ?_ | refine qi8 hk ?_); simp only [go_sem, ↓reduceIte, Nat.reduceEqDiff, Nat.reduceAdd, Nat.reduceSub, Nat.reduceMul, Nat.reduceLT, Nat.reduceLeDiff, reduceCtorEq, Int.reduceToNat]) | ((first | refine qf ?_ ?_ | refine qe ?_ ?_) <;> intro hc <;> simp only [hc, go_sem, ↓reduceIte, Nat.reduceEqDiff, Nat.reduceAdd, Nat.reduceSub, Nat.reduceMul, Nat.reduceLT, Nat.reduceLeDiff, reduceCtorEq, Int.reduceToNat] <;> (try simp only [qb, qa, decide_eq_true_eq, decide_eq_false_iff_not, Bool.and_eq_true] at hc)) | refine And.intro (by first | assumption | omega | (have := qg (by assumption); omega) | (unfold qp; omega)) ?_ | fail)
  · rw [qvc (by assumption)]; exact ⟨rfl, rfl⟩
  · rw [q33 (by assumption)]; exact ⟨rfl, rfl⟩
theorem qfh (hk : c.ok) (h : Q (curE (qt c x).1 :: L) (.val (.bool (qt c x).2))) : VApp Tryz.prog (curE c :: L) (.fn 21 [] []) [.ptr 0 0, .str x] Q := qb9 (q9v c hk x) (qbm _ _) (qbm _ _) rfl rfl fun _ => h
theorem qbax (c : K) (hk : c.ok) (x : List UInt8) : qcp Tryz.prog 49 (curE c) (curE (qv c x).1) [.ptr 0 0, .str x] (.bool (qv c x).2) := by
  refine qbe c0cs 1 (by simp) (by simp) ?_
  repeat' (first | refine ql ?_ | ((first | refine qn ?_ | refine qm ?_ | refine qfh hk ?_ | refine qqb ?_); simp only [go_sem, ↓reduceIte, Nat.reduceEqDiff, Nat.reduceAdd, Nat.reduceSub, Nat.reduceMul, Nat.reduceLT, Nat.reduceLeDiff, reduceCtorEq, Int.reduceToNat]) | ((first | refine qf ?_ ?_ | refine qe ?_ ?_) <;> intro hc <;> simp only [hc, go_sem, ↓reduceIte, Nat.reduceEqDiff, Nat.reduceAdd, Nat.reduceSub, Nat.reduceMul, Nat.reduceLT, Nat.reduceLeDiff, reduceCtorEq, Int.reduceToNat] <;> (try simp only [qb, qa, decide_eq_true_eq, decide_eq_false_iff_not, Bool.and_eq_true] at hc)) | refine And.intro (by first | assumption | omega | (have := qg (by assumption); omega) | (unfold qp; omega)) ?_ | fail)
  · rw [q00 (by assumption)]; exact ⟨rfl, rfl⟩
  · rw [q23 (by assumption)]; exact ⟨rfl, rfl⟩
theorem qd2 (hk : c.ok) (h : Q (curE (qv c x).1 :: L) (.val (.bool (qv c x).2))) : VApp Tryz.prog (curE c :: L) (.fn 49 [] []) [.ptr 0 0, .str x] Q := qb9 (qbax c hk x) (qbm _ _) (qbm _ _) rfl rfl fun _ => h
theorem q5e (c : K) : qcp Tryz.prog 30 (curE c) (curE (qj c).1) [.ptr 0 0] (.bool (qj c).2) := by
  refine qbe c0ct 1 (by simp) (by simp) ?_
  repeat' (first | refine ql ?_ | ((first | refine qn ?_ | refine qm ?_ | refine qi ?_ | refine qh ?_ | refine qhh ?_ | refine qqb ?_); simp only [go_sem, ↓reduceIte, Nat.reduceEqDiff, Nat.reduceAdd, Nat.reduceSub, Nat.reduceMul, Nat.reduceLT, Nat.reduceLeDiff, reduceCtorEq, Int.reduceToNat]) | ((first | refine qf ?_ ?_ | refine qe ?_ ?_) <;> intro hc <;> simp only [hc, go_sem, ↓reduceIte, Nat.reduceEqDiff, Nat.reduceAdd, Nat.reduceSub, Nat.reduceMul, Nat.reduceLT, Nat.reduceLeDiff, reduceCtorEq, Int.reduceToNat] <;> (try simp only [qb, qa, decide_eq_true_eq, decide_eq_false_iff_not, Bool.and_eq_true] at hc)) | refine And.intro (by first | assumption | omega | (have := qg (by assumption); omega) | (unfold qp; omega)) ?_ | ((first | simp (disch := omega) only [qr] | simp (disch := omega) only [qbb]); (try simp only [go_sem, ↓reduceIte, Nat.reduceEqDiff, Nat.reduceAdd, Nat.reduceSub, Nat.reduceMul, Nat.reduceLT, Nat.reduceLeDiff, reduceCtorEq, Int.reduceToNat])))
  · rw [qh0 (qhu (by assumption)), qf8 (qhu (by assumption))]; exact ⟨rfl, rfl⟩
  · rw [qo0 (qhg (by assumption)) (by assumption)]; exact ⟨rfl, rfl⟩
  · rw [qur (qhg (by assumption)) (by assumption), qe1 (by omega) (by unfold maxLen; omega)]; exact ⟨rfl, rfl⟩
theorem qht (h : Q (curE (qj c).1 :: L) (.val (.bool (qj c).2))) : VApp Tryz.prog (curE c :: L) (.fn 30 [] []) [.ptr 0 0] Q := qb9 (q5e c) (qbm _ _) (qbm _ _) rfl rfl fun _ => h
theorem q2t (c : K) (hn : c.nest ≤ 200) : qcp Tryz.prog 32 (curE c) (curE (qch c)) [.ptr 0 0] (.tup []) := by
  refine qbe c0cu 1 (by simp) (by simp) ?_
  repeat' (first | refine ql ?_ | ((first | refine qn ?_ | refine qm ?_ | refine qi ?_ | refine qh ?_ | refine qhh ?_); simp only [go_sem, ↓reduceIte, Nat.reduceEqDiff, Nat.reduceAdd, Nat.reduceSub, Nat.reduceMul, Nat.reduceLT, Nat.reduceLeDiff, reduceCtorEq, Int.reduceToNat]) | ((first | refine qf ?_ ?_ | refine qe ?_ ?_) <;> intro hc <;> simp only [hc, go_sem, ↓reduceIte, Nat.reduceEqDiff, Nat.reduceAdd, Nat.reduceSub, Nat.reduceMul, Nat.reduceLT, Nat.reduceLeDiff, reduceCtorEq, Int.reduceToNat] <;> (try simp only [qb, qa, decide_eq_true_eq, decide_eq_false_iff_not, Bool.and_eq_true] at hc)) | refine And.intro (by first | assumption | omega | (have := qg (by assumption); omega) | (unfold qp; omega)) ?_ | fail)
  · rw [qs0 (qhg (by assumption)) (by assumption), qe1 (by omega) (by unfold maxLen; omega)]
    simp only [List.cons.injEq, Ent.blk.injEq, AV.int.injEq, true_and, and_true]; omega
  · rw [qw7 (qhg (by assumption)) (by assumption)]
  · rw [qp6 (qhu (by assumption))]
theorem qfz (hn : c.nest ≤ 200) (h : Q (curE (qch c) :: L) (.val (.tup []))) : VApp Tryz.prog (curE c :: L) (.fn 32 [] []) [.ptr 0 0] Q := qb9 (q2t c hn) (qbm _ _) (qbm _ _) rfl rfl fun _ => h
theorem qw8 (c : K) (hk : c.ok) : qcp Tryz.prog 12 (curE c) (curE c) [.ptr 0 0] (.tup [.int .i64 (qjc c).1, .int .i64 (qjc c).2]) := by
  refine qbe c0cv 1 (by simp) (by simp) ?_
  repeat' (first | refine ql ?_ | refine qk ?_ | ((first | refine qn ?_ | refine qbc (by rfl) ?_ | refine qy ?_ | refine qm ?_ | refine qi ?_ | refine qh ?_); simp only [go_sem, ↓reduceIte, Nat.reduceEqDiff, Nat.reduceAdd, Nat.reduceSub, Nat.reduceMul, Nat.reduceLT, Nat.reduceLeDiff, reduceCtorEq, Int.reduceToNat]) | ((first | simp (disch := omega) only [qds]); (try simp only [go_sem, ↓reduceIte, Nat.reduceEqDiff, Nat.reduceAdd, Nat.reduceSub, Nat.reduceMul, Nat.reduceLT, Nat.reduceLeDiff, reduceCtorEq, Int.reduceToNat])) | ((first | refine qf ?_ ?_ | refine qe ?_ ?_) <;> intro hc <;> simp only [hc, go_sem, ↓reduceIte, Nat.reduceEqDiff, Nat.reduceAdd, Nat.reduceSub, Nat.reduceMul, Nat.reduceLT, Nat.reduceLeDiff, reduceCtorEq, Int.reduceToNat] <;> (try simp only [qb, qa, decide_eq_true_eq, decide_eq_false_iff_not, Bool.and_eq_true] at hc)) | refine And.intro (by first | assumption | omega | (have := qg (by assumption); omega) | (unfold qp; omega)) ?_ | ((first | simp (disch := omega) only [qr] | simp (disch := omega) only [qbb]); (try simp only [go_sem, ↓reduceIte, Nat.reduceEqDiff, Nat.reduceAdd, Nat.reduceSub, Nat.reduceMul, Nat.reduceLT, Nat.reduceLeDiff, reduceCtorEq, Int.reduceToNat])))
  · rw [qlj (by assumption)]
  · rw [qrj (by assumption) (by assumption)]
  · rw [qn8 (by assumption) (by assumption)]
theorem qb1j (hk : c.ok) (h : Q (curE c :: L) (.val (.tup [.int .i64 (qjc c).1, .int .i64 (qjc c).2]))) : VApp Tryz.prog (curE c :: L) (.fn 12 [] []) [.ptr 0 0] Q := qb9 (qw8 c hk) (qbm _ _) (qbm _ _) rfl rfl fun _ => h
end
set_option maxRecDepth 4000

theorem qzp {a : List T} {r : List AV} (h : AV.wfs (.sl 4 (qcr a) :: r)) : a.length ≤ maxLen := by
  have := h.1.1; rwa [qfp] at this
def refC (c : K) : AV := .agg [.sl 4 (qcr (c.l.drop c.at')), .int .i64 0, .int .i64 c.ep, .int .i64 0, .str [], .int .i64 c.nest, .int .i64 c.err, .int .i64 c.pos]
attribute [go_sem] refC
theorem q6x {l : List T} {i : Nat} : (l.drop i).length = l.length - i := List.length_drop
theorem qbdm {l : List T} {i : Nat} (h : i < l.length) : (l.drop i).getD 0 T0 = l.getD i T0 := by rw [qbaw h]; rfl
section
variable {c : K}
theorem qb1s (h : ¬ ((c.l.drop c.at').length : Int) = 0) : (c.at' : Int) < c.l.length := by rw [q6x] at h; omega
theorem qb5n (h : ((c.l.drop c.at').length : Int) = 0) : ¬ (c.at' : Int) < c.l.length := by rw [q6x] at h; omega
theorem q49 (h : (0 : Int) < (c.l.drop c.at').length) : (c.at' : Int) < c.l.length := by rw [q6x] at h; omega
theorem q1d (h : ¬ (0 : Int) < (c.l.drop c.at').length) : ¬ (c.at' : Int) < c.l.length := by rw [q6x] at h; omega
end
theorem qzt {c : K} {x : List UInt8} (h : (qt c x).2 = false) : (qt c x).1 = c := by
  unfold qt at *
  split at h
  · cases h
  · rename_i h1; rw [if_neg h1]
theorem qw (c : K) : qbf Tryz.prog 16 [refC c] (encT (qbd c)) := by
  refine qu c0bz (by simp) (by simp only [go_sem]) rfl fun hw => ?_
  repeat' (first | refine ql ?_ | refine qk ?_ | ((first | refine qn ?_ | refine qm ?_ | refine qi ?_ | refine qh ?_); simp only [go_sem, ↓reduceIte, Nat.reduceEqDiff, Nat.reduceAdd, Nat.reduceSub, Nat.reduceMul, Nat.reduceLT, Nat.reduceLeDiff, reduceCtorEq, Int.reduceToNat]) | ((first | simp (disch := omega) only [qds]); (try simp only [go_sem, ↓reduceIte, Nat.reduceEqDiff, Nat.reduceAdd, Nat.reduceSub, Nat.reduceMul, Nat.reduceLT, Nat.reduceLeDiff, reduceCtorEq, Int.reduceToNat])) | ((first | refine qf ?_ ?_ | refine qe ?_ ?_) <;> intro hc <;> simp only [hc, go_sem, ↓reduceIte, Nat.reduceEqDiff, Nat.reduceAdd, Nat.reduceSub, Nat.reduceMul, Nat.reduceLT, Nat.reduceLeDiff, reduceCtorEq, Int.reduceToNat] <;> (try simp only [qb, qa, decide_eq_true_eq, decide_eq_false_iff_not, Bool.and_eq_true] at hc)) | refine And.intro (by first | assumption | omega | (have := qg (by assumption); omega) | (unfold qp; omega)) ?_ | ((first | simp (disch := omega) only [qr] | simp (disch := omega) only [qbb]); (try simp only [go_sem, ↓reduceIte, Nat.reduceEqDiff, Nat.reduceAdd, Nat.reduceSub, Nat.reduceMul, Nat.reduceLT, Nat.reduceLeDiff, reduceCtorEq, Int.reduceToNat])))
  · rw [qfo (by assumption)]; rfl
  · rw [qtt (by assumption) (qb5n (by assumption))]; rfl
  · rw [qsg (by assumption) (qb1s (by assumption)), qbdm (by have := qb1s (c := c) (by assumption); omega)]
theorem qcf (c : K) : qbf Tryz.prog 51 [refC c] (.tup [refC (q9 c), encT (qbd c)]) := by
  refine qu c0ca (by simp) (by simp only [go_sem]) (by simp only [go_sem]) fun hw => ?_
  repeat' (first | refine ql ?_ | ((first | refine qn ?_ | refine qbc (by rfl) ?_ | refine qy ?_ | refine qm ?_ | refine qi ?_ | refine qh ?_ | refine qc (qw _) fun _ => ?_ | refine qd  (qw _) ?_); simp only [go_sem, ↓reduceIte, Nat.reduceEqDiff, Nat.reduceAdd, Nat.reduceSub, Nat.reduceMul, Nat.reduceLT, Nat.reduceLeDiff, reduceCtorEq, Int.reduceToNat]) | ((first | refine qf ?_ ?_ | refine qe ?_ ?_) <;> intro hc <;> simp only [hc, go_sem, ↓reduceIte, Nat.reduceEqDiff, Nat.reduceAdd, Nat.reduceSub, Nat.reduceMul, Nat.reduceLT, Nat.reduceLeDiff, reduceCtorEq, Int.reduceToNat] <;> (try simp only [qb, qa, decide_eq_true_eq, decide_eq_false_iff_not, Bool.and_eq_true] at hc)) | refine And.intro (by first | assumption | omega | (have := qg (by assumption); omega) | (unfold qp; omega)) ?_ | fail)
  · rw [qse (by assumption) (q49 (by assumption)), List.drop_drop]
  · rw [qtl (by assumption) (q1d (by assumption))]
  · rw [qts (by assumption)]
theorem qjy (t : T) (x : List UInt8) : qbf Tryz.prog 84 [encT t, .str x] (.bool (qiv t x)) := by
  refine qu c0cb (by simp) (by simp only [go_sem]) rfl fun hw => ?_
  repeat' (first | refine ql ?_ | ((first | refine qn ?_ | refine qm ?_); simp only [go_sem, ↓reduceIte, Nat.reduceEqDiff, Nat.reduceAdd, Nat.reduceSub, Nat.reduceMul, Nat.reduceLT, Nat.reduceLeDiff, reduceCtorEq, Int.reduceToNat]) | ((first | refine qf ?_ ?_ | refine qe ?_ ?_) <;> intro hc <;> simp only [hc, go_sem, ↓reduceIte, Nat.reduceEqDiff, Nat.reduceAdd, Nat.reduceSub, Nat.reduceMul, Nat.reduceLT, Nat.reduceLeDiff, reduceCtorEq, Int.reduceToNat] <;> (try simp only [qb, qa, decide_eq_true_eq, decide_eq_false_iff_not, Bool.and_eq_true] at hc)) | refine And.intro (by first | assumption | omega | (have := qg (by assumption); omega) | (unfold qp; omega)) ?_ | fail)
  all_goals simp_all [qiv]
theorem qc4 (c : K) (x : List UInt8) : qbf Tryz.prog 52 [refC c, .str x] (.bool (isK c x)) := by
  refine qu c0cc (by simp) (by simp only [go_sem]) rfl fun hw => ?_
  repeat' (first | refine ql ?_ | ((first | refine qn ?_ | refine qm ?_ | refine qc (qw c) fun _ => ?_ | refine qc (qjy _ _) fun _ => ?_ | refine qd  (qw c) ?_ | refine qd  (qjy _ _) ?_); simp only [go_sem, ↓reduceIte, Nat.reduceEqDiff, Nat.reduceAdd, Nat.reduceSub, Nat.reduceMul, Nat.reduceLT, Nat.reduceLeDiff, reduceCtorEq, Int.reduceToNat]) | ((first | refine qf ?_ ?_ | refine qe ?_ ?_) <;> intro hc <;> simp only [hc, go_sem, ↓reduceIte, Nat.reduceEqDiff, Nat.reduceAdd, Nat.reduceSub, Nat.reduceMul, Nat.reduceLT, Nat.reduceLeDiff, reduceCtorEq, Int.reduceToNat] <;> (try simp only [qb, qa, decide_eq_true_eq, decide_eq_false_iff_not, Bool.and_eq_true] at hc)) | refine And.intro (by first | assumption | omega | (have := qg (by assumption); omega) | (unfold qp; omega)) ?_ | fail)
  all_goals simp_all [isK]
theorem qbk (c : K) (x : List UInt8) : qbf Tryz.prog 25 [refC c, .str x] (.tup [refC (qt c x).1, .bool (qt c x).2]) := by
  refine qu c0cd (by simp) (by simp only [go_sem]) (by simp only [go_sem]) fun hw => ?_
  repeat' (first | refine ql ?_ | ((first | refine qn ?_ | refine qm ?_ | refine qi ?_ | refine qh ?_ | refine qc (qc4 _ _) fun _ => ?_ | refine qc (qcf _) fun _ => ?_ | refine qd  (qc4 _ _) ?_ | refine qd  (qcf _) ?_); simp only [go_sem, ↓reduceIte, Nat.reduceEqDiff, Nat.reduceAdd, Nat.reduceSub, Nat.reduceMul, Nat.reduceLT, Nat.reduceLeDiff, reduceCtorEq, Int.reduceToNat]) | ((first | refine qf ?_ ?_ | refine qe ?_ ?_) <;> intro hc <;> simp only [hc, go_sem, ↓reduceIte, Nat.reduceEqDiff, Nat.reduceAdd, Nat.reduceSub, Nat.reduceMul, Nat.reduceLT, Nat.reduceLeDiff, reduceCtorEq, Int.reduceToNat] <;> (try simp only [qb, qa, decide_eq_true_eq, decide_eq_false_iff_not, Bool.and_eq_true] at hc)) | refine And.intro (by first | assumption | omega | (have := qg (by assumption); omega) | (unfold qp; omega)) ?_ | fail)
  · rw [qvc (by assumption)]
  · rw [q33 (by assumption)]
theorem qc3 (c : K) (e : Int) : qbf Tryz.prog 50 [refC c, .int .i64 e] (refC (qe6 c e)) := by
  refine qu c0ce (by simp) (by simp only [go_sem]) (by simp only [go_sem]) fun hw => ?_
  repeat' (first | refine ql ?_ | ((first | refine qn ?_ | refine qm ?_ | refine qi ?_ | refine qh ?_ | refine qc (qw c) fun _ => ?_ | refine qd  (qw c) ?_); simp only [go_sem, ↓reduceIte, Nat.reduceEqDiff, Nat.reduceAdd, Nat.reduceSub, Nat.reduceMul, Nat.reduceLT, Nat.reduceLeDiff, reduceCtorEq, Int.reduceToNat]) | ((first | refine qf ?_ ?_ | refine qe ?_ ?_) <;> intro hc <;> simp only [hc, go_sem, ↓reduceIte, Nat.reduceEqDiff, Nat.reduceAdd, Nat.reduceSub, Nat.reduceMul, Nat.reduceLT, Nat.reduceLeDiff, reduceCtorEq, Int.reduceToNat] <;> (try simp only [qb, qa, decide_eq_true_eq, decide_eq_false_iff_not, Bool.and_eq_true] at hc)) | refine And.intro (by first | assumption | omega | (have := qg (by assumption); omega) | (unfold qp; omega)) ?_ | fail)
  · rw [qf8 (by assumption)]
  · subst hc; rw [q0r (by assumption)]
  · rw [q1f (by assumption) (by assumption)]
theorem qbg (c : K) (x : List UInt8) : qbf Tryz.prog 28 [refC c, .str x] (.tup [refC (qv c x).1, .bool (qv c x).2]) := by
  refine qu c0cf (by simp) (by simp only [go_sem]) (by simp only [go_sem]) fun hw => ?_
  repeat' (first | refine ql ?_ | ((first | refine qn ?_ | refine qm ?_ | refine qi ?_ | refine qh ?_ | refine qc (qbk _ _) fun _ => ?_ | refine qc (qc3 _ _) fun _ => ?_ | refine qd  (qbk _ _) ?_ | refine qd  (qc3 _ _) ?_); simp only [go_sem, ↓reduceIte, Nat.reduceEqDiff, Nat.reduceAdd, Nat.reduceSub, Nat.reduceMul, Nat.reduceLT, Nat.reduceLeDiff, reduceCtorEq, Int.reduceToNat]) | ((first | refine qf ?_ ?_ | refine qe ?_ ?_) <;> intro hc <;> simp only [hc, go_sem, ↓reduceIte, Nat.reduceEqDiff, Nat.reduceAdd, Nat.reduceSub, Nat.reduceMul, Nat.reduceLT, Nat.reduceLeDiff, reduceCtorEq, Int.reduceToNat] <;> (try simp only [qb, qa, decide_eq_true_eq, decide_eq_false_iff_not, Bool.and_eq_true] at hc)) | refine And.intro (by first | assumption | omega | (have := qg (by assumption); omega) | (unfold qp; omega)) ?_ | fail)
  · rw [q23 (by assumption), qzt (by assumption)]
  · rw [q00 (by assumption)]
theorem qco (c : K) : qbf Tryz.prog 33 [refC c] (.tup [refC (qj c).1, .bool (qj c).2]) := by
  refine qu c0cg (by simp) (by simp only [go_sem]) (by simp only [go_sem]) fun hw => ?_
  repeat' (first | refine ql ?_ | ((first | refine qn ?_ | refine qm ?_ | refine qi ?_ | refine qh ?_ | refine qc (qc3 c _) fun _ => ?_ | refine qd  (qc3 c _) ?_); simp only [go_sem, ↓reduceIte, Nat.reduceEqDiff, Nat.reduceAdd, Nat.reduceSub, Nat.reduceMul, Nat.reduceLT, Nat.reduceLeDiff, reduceCtorEq, Int.reduceToNat]) | ((first | refine qf ?_ ?_ | refine qe ?_ ?_) <;> intro hc <;> simp only [hc, go_sem, ↓reduceIte, Nat.reduceEqDiff, Nat.reduceAdd, Nat.reduceSub, Nat.reduceMul, Nat.reduceLT, Nat.reduceLeDiff, reduceCtorEq, Int.reduceToNat] <;> (try simp only [qb, qa, decide_eq_true_eq, decide_eq_false_iff_not, Bool.and_eq_true] at hc)) | refine And.intro (by first | assumption | omega | (have := qg (by assumption); omega) | (unfold qp; omega)) ?_ | ((first | simp (disch := omega) only [qr] | simp (disch := omega) only [qbb]); (try simp only [go_sem, ↓reduceIte, Nat.reduceEqDiff, Nat.reduceAdd, Nat.reduceSub, Nat.reduceMul, Nat.reduceLT, Nat.reduceLeDiff, reduceCtorEq, Int.reduceToNat])))
  · rw [qh0 (by assumption)]
  · rw [qo0 (by assumption) (by assumption)]
  · rw [qur (by assumption) (by assumption), qe1 (by omega) (by unfold maxLen; omega)]; rfl
theorem qb1 (c : K) (hn : c.nest ≤ 200) : qbf Tryz.prog 35 [refC c] (refC (qch c)) := by
  refine qu c0ch (by simp) (by simp only [go_sem]) (by simp only [go_sem]) fun hw => ?_
  repeat' (first | refine ql ?_ | ((first | refine qn ?_ | refine qm ?_ | refine qi ?_ | refine qh ?_); simp only [go_sem, ↓reduceIte, Nat.reduceEqDiff, Nat.reduceAdd, Nat.reduceSub, Nat.reduceMul, Nat.reduceLT, Nat.reduceLeDiff, reduceCtorEq, Int.reduceToNat]) | ((first | refine qf ?_ ?_ | refine qe ?_ ?_) <;> intro hc <;> simp only [hc, go_sem, ↓reduceIte, Nat.reduceEqDiff, Nat.reduceAdd, Nat.reduceSub, Nat.reduceMul, Nat.reduceLT, Nat.reduceLeDiff, reduceCtorEq, Int.reduceToNat] <;> (try simp only [qb, qa, decide_eq_true_eq, decide_eq_false_iff_not, Bool.and_eq_true] at hc)) | refine And.intro (by first | assumption | omega | (have := qg (by assumption); omega) | (unfold qp; omega)) ?_ | fail)
  · rw [qs0 (by assumption) (by assumption), qe1 (by omega) (by unfold maxLen; omega)]
    simp only [VO.val.injEq, AV.agg.injEq, List.cons.injEq, AV.int.injEq, true_and, and_true]; omega
  · rw [qw7 (by assumption) (by assumption)]
  · rw [qp6 (by assumption)]
theorem qpv (c : K) : qbf Tryz.prog 13 [refC c] (.tup [.int .i64 (qjc c).1, .int .i64 (qjc c).2]) := by
  refine qu c0ci (by simp) (by simp only [go_sem]) rfl fun hw => ?_
  repeat' (first | refine ql ?_ | refine qk ?_ | ((first | refine qn ?_ | refine qbc (by rfl) ?_ | refine qy ?_ | refine qm ?_ | refine qi ?_ | refine qh ?_); simp only [go_sem, ↓reduceIte, Nat.reduceEqDiff, Nat.reduceAdd, Nat.reduceSub, Nat.reduceMul, Nat.reduceLT, Nat.reduceLeDiff, reduceCtorEq, Int.reduceToNat]) | ((first | simp (disch := omega) only [qds]); (try simp only [go_sem, ↓reduceIte, Nat.reduceEqDiff, Nat.reduceAdd, Nat.reduceSub, Nat.reduceMul, Nat.reduceLT, Nat.reduceLeDiff, reduceCtorEq, Int.reduceToNat])) | ((first | refine qf ?_ ?_ | refine qe ?_ ?_) <;> intro hc <;> simp only [hc, go_sem, ↓reduceIte, Nat.reduceEqDiff, Nat.reduceAdd, Nat.reduceSub, Nat.reduceMul, Nat.reduceLT, Nat.reduceLeDiff, reduceCtorEq, Int.reduceToNat] <;> (try simp only [qb, qa, decide_eq_true_eq, decide_eq_false_iff_not, Bool.and_eq_true] at hc)) | refine And.intro (by first | assumption | omega | (have := qg (by assumption); omega) | (unfold qp; omega)) ?_ | ((first | simp (disch := omega) only [qr] | simp (disch := omega) only [qbb]); (try simp only [go_sem, ↓reduceIte, Nat.reduceEqDiff, Nat.reduceAdd, Nat.reduceSub, Nat.reduceMul, Nat.reduceLT, Nat.reduceLeDiff, reduceCtorEq, Int.reduceToNat])))
  · rw [qlj (by assumption)]
  · rw [qrj (by assumption) (q49 (by assumption)), qbdm (by have := q49 (c := c) (by assumption); omega)]
  · rw [qn8 (by assumption) (q1d (by assumption))]
/-- The words ahead of the first end. -/
def qgj : List T → List T
  | [] => []
  | t :: r => if t.kind = 0 then [] else t :: qgj r
def endT : List T → Int
  | [] => 0
  | t :: r => if t.kind = 0 then t.pos else endT r
def newK (l : List T) : K := ⟨qgj l, endT l, 0, 0, 0, 0⟩
theorem qjz : ∀ l : List T, (qgj l).length ≤ l.length
  | [] => Nat.le_refl _
  | t :: r => by
    rw [qgj]
    split
    · exact Nat.zero_le _
    · have := qjz r; simp only [List.length_cons]; omega
theorem qt3 {l : List T} {i : Nat} (h1 : ∀ t ∈ l.take i, t.kind ≠ 0) (h : i < l.length) (h2 : (l.getD i T0).kind = 0) : qgj l = l.take i ∧ endT l = (l.getD i T0).pos := by
  induction l generalizing i with
  | nil => simp at h
  | cons t r ih =>
    cases i with
    | zero => simp only [List.getD_cons_zero] at h2 ⊢; rw [qgj, endT, if_pos h2, if_pos h2]; exact ⟨rfl, rfl⟩
    | succ i =>
      have ht := h1 t (by simp)
      obtain ⟨g1, g2⟩ := ih (fun u hu => h1 u (List.mem_cons_of_mem t hu)) (by simpa using h) (by simpa using h2)
      rw [qgj, endT, if_neg ht, if_neg ht, g1, g2]
      exact ⟨rfl, rfl⟩
theorem qtq {l : List T} (h1 : ∀ t ∈ l, t.kind ≠ 0) : qgj l = l ∧ endT l = 0 := by
  induction l with
  | nil => exact ⟨rfl, rfl⟩
  | cons t r ih =>
    obtain ⟨g1, g2⟩ := ih fun u hu => h1 u (by simp [hu])
    rw [qgj, endT, if_neg (h1 t (by simp)), if_neg (h1 t (by simp)), g1, g2]
    exact ⟨rfl, rfl⟩
theorem qid {a : List T} {i : Nat} (h : i < a.length) {p : T → Prop} (h1 : ∀ t ∈ a.take i, p t) (h2 : p (a.getD i T0)) : ∀ t ∈ a.take (i + 1), p t := by
  intro t ht
  rw [List.take_add_one, List.getElem?_eq_getElem h] at ht
  rcases List.mem_append.1 ht with ht | ht
  · exact h1 t ht
  · simp only [Option.toList_some, List.mem_singleton] at ht
    subst ht
    rwa [List.getD_eq_getElem?_getD, List.getElem?_eq_getElem h] at h2
theorem qto (l : List T) : qbf Tryz.prog 7 [.sl 4 (qcr l)] (refC (newK l)) := by
  refine qu c0cj (by simp) (by simp only [go_sem]) (by simp only [go_sem]) fun hw => ?_
  have h1 := qzp hw
  repeat' (first | refine ql ?_ | refine qk ?_ | ((first | refine qn ?_ | refine qbc (by rfl) ?_ | refine qy ?_ | refine qm ?_ | refine qs ?_ | refine qi ?_ | refine qh ?_); simp only [go_sem, ↓reduceIte, Nat.reduceEqDiff, Nat.reduceAdd, Nat.reduceSub, Nat.reduceMul, Nat.reduceLT, Nat.reduceLeDiff, reduceCtorEq, Int.reduceToNat]) | ((first | refine qf ?_ ?_ | refine qe ?_ ?_) <;> intro hc <;> simp only [hc, go_sem, ↓reduceIte, Nat.reduceEqDiff, Nat.reduceAdd, Nat.reduceSub, Nat.reduceMul, Nat.reduceLT, Nat.reduceLeDiff, reduceCtorEq, Int.reduceToNat] <;> (try simp only [qb, qa, decide_eq_true_eq, decide_eq_false_iff_not, Bool.and_eq_true] at hc)) | refine And.intro (by first | assumption | omega | (have := qg (by assumption); omega) | (unfold qp; omega)) ?_ | ((first | simp (disch := omega) only [qr] | simp (disch := omega) only [qbb]); (try simp only [go_sem, ↓reduceIte, Nat.reduceEqDiff, Nat.reduceAdd, Nat.reduceSub, Nat.reduceMul, Nat.reduceLT, Nat.reduceLeDiff, reduceCtorEq, Int.reduceToNat])))
  refine qby (S := Nat) (fun i => i ≤ l.length ∧ ∀ t ∈ l.take i, t.kind ≠ 0) (fun i => (⟨[(0, .sl 4 (qcr l)), (2, .ptr 0 0), (3, .int .i64 i)], []⟩, [.blk [.nils, .int .i64 0, .int .i64 0, .int .i64 0, .str [], .int .i64 0, .int .i64 0, .int .i64 0]])) (fun i => l.length - i) ?_ fun i hi => ?_
  · refine qbn 0 [0] ⟨Nat.zero_le _, by simp⟩ rfl (by simp) ?_ ?_ ?_ <;> (try simp only [go_sem, ↓reduceIte, Nat.reduceEqDiff, Nat.reduceAdd, Nat.reduceSub, Nat.reduceMul, Nat.reduceLT, Nat.reduceLeDiff, reduceCtorEq, Int.reduceToNat]) <;> (try simp (disch := omega) only [qbb])
  · obtain ⟨hi, ha⟩ := hi
    repeat' (first | refine ql ?_ | refine qk ?_ | ((first | refine qn ?_ | refine qbc (by rfl) ?_ | refine qy ?_ | refine qm ?_ | refine qs ?_ | refine qi ?_ | refine qh ?_); simp only [go_sem, ↓reduceIte, Nat.reduceEqDiff, Nat.reduceAdd, Nat.reduceSub, Nat.reduceMul, Nat.reduceLT, Nat.reduceLeDiff, reduceCtorEq, Int.reduceToNat]) | ((first | simp (disch := omega) only [qds]); (try simp only [go_sem, ↓reduceIte, Nat.reduceEqDiff, Nat.reduceAdd, Nat.reduceSub, Nat.reduceMul, Nat.reduceLT, Nat.reduceLeDiff, reduceCtorEq, Int.reduceToNat])) | ((first | refine qf ?_ ?_ | refine qe ?_ ?_) <;> intro hc <;> simp only [hc, go_sem, ↓reduceIte, Nat.reduceEqDiff, Nat.reduceAdd, Nat.reduceSub, Nat.reduceMul, Nat.reduceLT, Nat.reduceLeDiff, reduceCtorEq, Int.reduceToNat] <;> (try simp only [qb, qa, decide_eq_true_eq, decide_eq_false_iff_not, Bool.and_eq_true] at hc)) | refine And.intro (by first | assumption | omega | (have := qg (by assumption); omega) | (unfold qp; omega)) ?_ | ((first | simp (disch := omega) only [qr] | simp (disch := omega) only [qbb]); (try simp only [go_sem, ↓reduceIte, Nat.reduceEqDiff, Nat.reduceAdd, Nat.reduceSub, Nat.reduceMul, Nat.reduceLT, Nat.reduceLeDiff, reduceCtorEq, Int.reduceToNat])))
    · obtain ⟨g1, g2⟩ := qt3 ha (by omega) (by assumption)
      rw [newK, g1, g2]; rfl
    · refine qbn (i + 1) [0] ⟨⟨by omega, qid (by omega) ha (by assumption)⟩, by omega⟩ rfl (by simp) ?_ ?_ ?_ <;> (try simp only [go_sem, ↓reduceIte, Nat.reduceEqDiff, Nat.reduceAdd, Nat.reduceSub, Nat.reduceMul, Nat.reduceLT, Nat.reduceLeDiff, reduceCtorEq, Int.reduceToNat]) <;> (try simp (disch := omega) only [qbb])
    · rw [List.take_of_length_le (by omega)] at ha
      obtain ⟨g1, g2⟩ := qtq ha
      rw [newK, g1, g2]; rfl
theorem qb1p (x : Ent) (es : List AV) : co (x :: accE 4 es) (.sl 4) (accV 1 es) = .sl 4 es := by
  cases es with
  | nil => rw [qbu, qqk]
  | cons e es =>
    rw [qb4 (by simp), qt6, qb3 (by simp)]
    simp only [ent, q1c, if_true]
def q3h (l : List T) (i : Nat) : AF × List Ent :=
  (⟨[(3, .ptr 0 0), (8, .sl 4 (qcr l)), (9, .int .i64 l.length), (10, .int .i64 i)], []⟩,
    .blk [accV 1 (qcr (l.take i)), .int .i64 0, .int .i64 0, .int .i64 0, .str [], .int .i64 0, .int .i64 0, .int .i64 0, .int .i64 0] :: accE 4 (qcr (l.take i)))
theorem qk4 {l : List T} (h : l ≠ []) : qcr l ≠ [] := by cases l with | nil => exact absurd rfl h | cons _ _ => simp [qcr]
theorem q0l {l : List T} {i : Nat} (h : i < l.length) : l.take (i + 1) = l.take i ++ [l.getD i T0] := by
  rw [List.take_add_one, List.getElem?_eq_getElem h, List.getD_eq_getElem?_getD, List.getElem?_eq_getElem h]; rfl
theorem capT {n : Nat} (h : n ≤ 1048580) : qp n 40 := by unfold qp; omega
theorem qbau (l : List T) (hl : l.length ≤ 1048577) : VCalls Tryz.prog 6 [] [.sl 4 (qcr l)] fun H' o => H' = [curE (newK l)] ∧ o = .val (.ptr 0 0) := by
  refine qbe c0ck 1 (by simp) (by simp) ?_
  have hmx : (1048577 : Nat) ≤ maxLen := by unfold maxLen; omega
  repeat' (first | refine ql ?_ | refine qk ?_ | ((first | refine qn ?_ | refine qbc (by rfl) ?_ | refine qy ?_ | refine qm ?_ | refine qs ?_ | refine qi ?_ | refine qh ?_); simp only [go_sem, ↓reduceIte, Nat.reduceEqDiff, Nat.reduceAdd, Nat.reduceSub, Nat.reduceMul, Nat.reduceLT, Nat.reduceLeDiff, reduceCtorEq, Int.reduceToNat]) | ((first | refine qf ?_ ?_ | refine qe ?_ ?_) <;> intro hc <;> simp only [hc, go_sem, ↓reduceIte, Nat.reduceEqDiff, Nat.reduceAdd, Nat.reduceSub, Nat.reduceMul, Nat.reduceLT, Nat.reduceLeDiff, reduceCtorEq, Int.reduceToNat] <;> (try simp only [qb, qa, decide_eq_true_eq, decide_eq_false_iff_not, Bool.and_eq_true] at hc)) | refine And.intro (by first | assumption | omega | (have := qg (by assumption); omega) | (unfold qp; omega)) ?_ | ((first | simp (disch := omega) only [qr] | simp (disch := omega) only [qbb]); (try simp only [go_sem, ↓reduceIte, Nat.reduceEqDiff, Nat.reduceAdd, Nat.reduceSub, Nat.reduceMul, Nat.reduceLT, Nat.reduceLeDiff, reduceCtorEq, Int.reduceToNat])))
  refine qby (S := Nat) (fun i => i ≤ l.length ∧ ∀ t ∈ l.take i, t.kind ≠ 0) (q3h l) (fun i => l.length - i) ?_ fun i hi => ?_
  · refine qbn 0 [0] ⟨Nat.zero_le _, by simp⟩ rfl (by simp) ?_ ?_ ?_ <;> simp only [q3h, List.take_zero, qg6, qbu, qbv] <;> (try simp only [go_sem, ↓reduceIte, Nat.reduceEqDiff, Nat.reduceAdd, Nat.reduceSub, Nat.reduceMul, Nat.reduceLT, Nat.reduceLeDiff, reduceCtorEq, Int.reduceToNat]) <;> (try simp (disch := omega) only [qbb])
  · obtain ⟨hi, ha⟩ := hi
    unfold q3h
    by_cases hx : i < l.length ∧ (l.getD i T0).kind ≠ 0
    · have hT : AV.agg [.int .i64 (l.getD i T0).kind, .int .i64 (l.getD i T0).pos, .int .i64 (l.getD i T0).num, .str (l.getD i T0).text] = encT (l.getD i T0) := rfl
      have hts := q0l hx.1
      have hne : qcr (l.take (i + 1)) ≠ [] := qk4 (by rw [hts]; simp)
      have hlen : (l.take (i + 1)).length = i + 1 := by rw [List.length_take]; omega
      by_cases h0 : i = 0
      · subst h0
        simp only [List.take_zero, qg6, qbu, qbv]
        repeat' (first | refine ql ?_ | refine qk ?_ | ((first | refine qn ?_ | refine qbc (by rfl) ?_ | refine qy ?_ | refine qm ?_ | refine qs ?_ | refine qi ?_ | refine qh ?_); simp only [go_sem, ↓reduceIte, Nat.reduceEqDiff, Nat.reduceAdd, Nat.reduceSub, Nat.reduceMul, Nat.reduceLT, Nat.reduceLeDiff, reduceCtorEq, Int.reduceToNat]) | ((first | simp (disch := omega) only [qds]); (try simp only [go_sem, ↓reduceIte, Nat.reduceEqDiff, Nat.reduceAdd, Nat.reduceSub, Nat.reduceMul, Nat.reduceLT, Nat.reduceLeDiff, reduceCtorEq, Int.reduceToNat])) | ((first | refine qf ?_ ?_ | refine qe ?_ ?_) <;> intro hc <;> simp only [hc, go_sem, ↓reduceIte, Nat.reduceEqDiff, Nat.reduceAdd, Nat.reduceSub, Nat.reduceMul, Nat.reduceLT, Nat.reduceLeDiff, reduceCtorEq, Int.reduceToNat] <;> (try simp only [qb, qa, decide_eq_true_eq, decide_eq_false_iff_not, Bool.and_eq_true] at hc)) | refine And.intro (by first | assumption | omega | (have := qg (by assumption); omega) | (unfold qp; omega)) ?_ | ((first | simp (disch := omega) only [qr] | simp (disch := omega) only [qbb]); (try simp only [go_sem, ↓reduceIte, Nat.reduceEqDiff, Nat.reduceAdd, Nat.reduceSub, Nat.reduceMul, Nat.reduceLT, Nat.reduceLeDiff, reduceCtorEq, Int.reduceToNat])))
        · exact absurd (by assumption) hx.2
        · refine qbn 1 [0, 2] ⟨⟨by omega, qid (by omega) ha hx.2⟩, by omega⟩ rfl (by simp) ?_ ?_ ?_
          all_goals simp only [q3h, qb4 hne, qb3 hne, qfp, hlen]
          all_goals (try simp only [Nat.zero_add] at hts)
          all_goals simp only [hts, List.take_zero, List.nil_append]
          all_goals simp only [go_sem, ↓reduceIte, Nat.reduceEqDiff, Nat.reduceAdd, Nat.reduceSub, Nat.reduceMul, Nat.reduceLT, Nat.reduceLeDiff, reduceCtorEq, Int.reduceToNat]
          all_goals first | exact ⟨rfl, rfl⟩ | exact congrArg _ (by decide) | rfl | trace_state
        · omega
      · have hne0 : qcr (l.take i) ≠ [] := qk4 (by intro e; have := congrArg List.length e; simp only [List.length_take, List.length_nil] at this; omega)
        have hli : (l.take i).length = i := by rw [List.length_take]; omega
        simp only [qb4 hne0, qb3 hne0, qfp]
        have hat : ∀ ac : List T, ac = l.take i → qcr ac ++ [encT (l.getD i T0)] = qcr (l.take (i + 1)) := fun ac e => by rw [e, qff, hts]
        generalize hac : l.take i = ac at *
        have hcap : qp (ac.length + 1) 40 := capT (by omega)
        have hil : (i : Int) < l.length := by omega
        have hkd := hx.2
        repeat' (first | refine ql ?_ | refine qk ?_ | ((first | refine qn ?_ | refine qbc (by rfl) ?_ | refine qy ?_ | refine qm ?_ | refine qs ?_ | refine qi ?_ | refine qh ?_); simp (disch := first | omega | (simp only [List.length_set, List.length_append, List.length_cons, List.length_nil]; done) | (simp only [List.length_set, List.length_append, List.length_cons, List.length_nil]; omega)) only [hil, hkd, qds, ne_eq, go_sem, ↓reduceIte, Nat.reduceEqDiff, Nat.reduceAdd, Nat.reduceSub, Nat.reduceMul, Nat.reduceLT, Nat.reduceLeDiff, reduceCtorEq, Int.reduceToNat]) | ((first | refine qf ?_ ?_ | refine qe ?_ ?_) <;> intro hc <;> simp only [hc, go_sem, ↓reduceIte, Nat.reduceEqDiff, Nat.reduceAdd, Nat.reduceSub, Nat.reduceMul, Nat.reduceLT, Nat.reduceLeDiff, reduceCtorEq, Int.reduceToNat] <;> (try simp only [qb, qa, decide_eq_true_eq, decide_eq_false_iff_not, Bool.and_eq_true] at hc)) | refine And.intro (by first | assumption | omega | (have := qg (by assumption); omega) | (unfold qp; omega)) ?_ | ((first | simp (disch := omega) only [qr] | simp (disch := omega) only [qbb]); (try simp only [go_sem, ↓reduceIte, Nat.reduceEqDiff, Nat.reduceAdd, Nat.reduceSub, Nat.reduceMul, Nat.reduceLT, Nat.reduceLeDiff, reduceCtorEq, Int.reduceToNat])))
        · refine qbn (i + 1) [0, 3] ⟨⟨by omega, qid (by omega) (by rw [hac]; exact ha) hx.2⟩, by omega⟩ rfl (by simp) ?_ ?_ ?_
          all_goals simp only [q3h, qb4 hne, qb3 hne, qfp, hlen]
          all_goals rw [← hat ac rfl]
          all_goals simp only [go_sem, ↓reduceIte, Nat.reduceEqDiff, Nat.reduceAdd, Nat.reduceSub, Nat.reduceMul, Nat.reduceLT, Nat.reduceLeDiff, reduceCtorEq, Int.reduceToNat]
          rw [hli, qff ac, qjb]
          exact ⟨rfl, qhk _ _, rfl⟩
    · refine qra 0 0 (.sl 4) rfl ?_
      simp only [List.set_cons_zero, List.getD_cons_zero, qb1p]
      repeat' (first | refine ql ?_ | refine qk ?_ | ((first | refine qn ?_ | refine qbc (by rfl) ?_ | refine qy ?_ | refine qm ?_ | refine qs ?_ | refine qi ?_ | refine qh ?_); simp only [go_sem, ↓reduceIte, Nat.reduceEqDiff, Nat.reduceAdd, Nat.reduceSub, Nat.reduceMul, Nat.reduceLT, Nat.reduceLeDiff, reduceCtorEq, Int.reduceToNat]) | ((first | simp (disch := omega) only [qds]); (try simp only [go_sem, ↓reduceIte, Nat.reduceEqDiff, Nat.reduceAdd, Nat.reduceSub, Nat.reduceMul, Nat.reduceLT, Nat.reduceLeDiff, reduceCtorEq, Int.reduceToNat])) | ((first | refine qf ?_ ?_ | refine qe ?_ ?_) <;> intro hc <;> simp only [hc, go_sem, ↓reduceIte, Nat.reduceEqDiff, Nat.reduceAdd, Nat.reduceSub, Nat.reduceMul, Nat.reduceLT, Nat.reduceLeDiff, reduceCtorEq, Int.reduceToNat] <;> (try simp only [qb, qa, decide_eq_true_eq, decide_eq_false_iff_not, Bool.and_eq_true] at hc)) | refine And.intro (by first | assumption | omega | (have := qg (by assumption); omega) | (unfold qp; omega)) ?_ | ((first | simp (disch := omega) only [qr] | simp (disch := omega) only [qbb]); (try simp only [go_sem, ↓reduceIte, Nat.reduceEqDiff, Nat.reduceAdd, Nat.reduceSub, Nat.reduceMul, Nat.reduceLT, Nat.reduceLeDiff, reduceCtorEq, Int.reduceToNat])))
      · obtain ⟨g1, g2⟩ := qt3 ha (by omega) (by assumption)
        rw [newK, g1, g2]; rfl
      · exact hx ⟨by omega, by assumption⟩
      · rw [List.take_of_length_le (by omega)] at ha ⊢
        obtain ⟨g1, g2⟩ := qtq ha
        rw [newK, g1, g2]; rfl
end Go.Proofs.YtmekebfgmjaenaaGreat
