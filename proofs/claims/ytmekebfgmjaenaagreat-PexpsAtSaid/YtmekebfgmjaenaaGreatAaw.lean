/- Texts of this proof, joined. -/
import Derived.Test.YtmekebfgmjaenaaGreatAau
import Derived.Test.YtmekebfgmjaenaaGreatAav

/- the cursor: what it is, what its methods do -/
set_option maxRecDepth 4000
namespace Go.Proofs.YtmekebfgmjaenaaGreat
open Go Go.RowKit Go.V
set_option linter.unusedVariables false
set_option linter.unusedSimpArgs false

attribute [go_sem] cond_true cond_false
/-- A cursor. -/
structure K where
  l : List T
  ep : Int
  at' : Nat
  nest : Nat
  err : Int
  pos : Int
def K.ok (c : K) : Prop := c.at' ≤ c.l.length ∧ c.l.length ≤ maxLen
def curE (c : K) : Ent := .blk [.sl 4 (qcy c.l), .int .i64 0, .int .i64 c.ep, .int .i64 0, .str [], .int .i64 c.at', .int .i64 c.nest, .int .i64 c.err, .int .i64 c.pos]
def K.bad (c : K) : Bool := !decide (c.err = 0)
theorem qg1 {c : K} (h : c.bad = false) : c.err = 0 := by simpa [K.bad] using h
theorem qhb {c : K} (h : c.bad = true) : ¬ c.err = 0 := by simpa [K.bad] using h
def qbc (c : K) : T := if c.err = 0 then if c.at' < c.l.length then c.l.getD c.at' T0 else ⟨0, c.ep, 0, []⟩ else T0
def q8 (c : K) : K := if c.err = 0 then if c.at' < c.l.length then { c with at' := c.at' + 1 } else c else c
def qh3 (t : T) (s : List UInt8) : Bool := (decide (t.kind = 4) || decide (t.kind = 5)) && decide (t.text = s)
def isK (c : K) (s : List UInt8) : Bool := decide (c.err = 0) && qh3 (qbc c) s
def qfc (c : K) (e : Int) : K := if c.err = 0 then { c with err := if e = 0 then 1 else e, pos := (qbc c).pos } else c
def qr (c : K) (s : List UInt8) : K × Bool := if isK c s = true then (q8 c, true) else (c, false)
def qu (c : K) (s : List UInt8) : K × Bool := if isK c s = true then (q8 c, true) else (qfc c 5, false)
def qh (c : K) : K × Bool := if c.err = 0 then if c.nest < 200 then ({ c with nest := c.nest + 1 }, true) else (qfc c 2, false) else (c, false)
def qcg (c : K) : K := if c.err = 0 then if 0 < c.nest then { c with nest := c.nest - 1 } else c else c
def qja (c : K) : Int × Int := if c.err = 0 then if c.at' < c.l.length then ((c.l.getD c.at' T0).pos, 5) else (c.ep, 0) else (c.pos, c.err)

theorem qbh (k : Nat) (c : K) : (curE c).bd k = true := by
  simp only [curE, Ent.bd, AV.bds, AV.bd, qhs, Bool.and_true]
theorem qme (σ : Nat → Nat) (c : K) : (curE c).ren σ = curE c := Ent.ren_same (m := 0) (fun i hi => by omega) _ (qbh 0 c)
attribute [go_sem] curE
/-- A call that leaves the first entry so. -/
def qco (P : Program) (f : FuncId) (e e' : Ent) (args : List AV) (r : AV) : Prop := VCalls P f [e] args fun H' o => H' = [e'] ∧ o = .val r
section
variable {P : Program} {f : FuncId} {e e' : Ent} {L : List Ent} {args : List AV} {r : AV} {Q : List Ent → VO → Prop}
theorem qb2 (h : qco P f e e' args r) (hb : e.bd 1 = true) (hb' : e'.bd 1 = true) (ha : AV.bds 1 args = true) (hr : r.bd 1 = true) (hq : r.wf → Q (e' :: L) (.val r)) : VApp P (e :: L) (.fn f [] []) args Q :=
  qha (first := []) (caps := []) (by
    simp only [List.nil_append, List.append_nil]
    refine qi5 (H0 := [e]) (L := L) (h.mono' (Q' := fun H' o => (H' = [e'] ∧ o = .val r) ∧ r.wf) fun H' o hw ho => ⟨ho, by have := ho.2; subst this; exact hw⟩) (by simp [hb]) ha ?_
    rintro H1 o ⟨⟨rfl, rfl⟩, hw⟩
    exact ⟨rfl, by simp [hb'], hr, hq hw⟩)
theorem q14 (h : qco P f e e args r) (hb : e.bd 1 = true) (ha : AV.bds 1 args = true) (hr : r.bd 1 = true) {Kk : Md → AV → List Ent → Prop} (hq : r.wf → Kk .here r (e :: L)) (hw : r.wf) : DApp P (e :: L) (.fn f [] []) args Kk :=
  .inl ⟨r, qb2 h hb hb ha hr fun _ => ⟨rfl, rfl⟩, hq hw⟩
/-- A call that changes the first entry, wherever else it is made. -/
theorem qbvq (h : qco P f e e' args r) (hb : e.bd 1 = true) (hb' : e'.bd 1 = true) (ha : AV.bds 1 args = true) (hr : r.bd 1 = true) (hn : e ≠ .dead) {Kk : Md → AV → List Ent → Prop} (hq : Kk (.meth 0 e e') r (e' :: L)) : DApp P (e :: L) (.fn f [] []) args Kk :=
  .inr (.inr ⟨r, 0, e, e', ⟨hn, rfl, fun H₀ h0 => by
    cases H₀ with
    | nil => exact absurd h0.symm hn
    | cons x L' =>
      cases (show x = e from h0)
      exact qb2 h hb hb' ha hr fun _ => ⟨rfl, rfl⟩⟩, hq⟩)
end

theorem qo8 (c : K) : qco Tryz.prog 36 (curE c) (curE c) [.ptr 0 0] (.bool c.bad) := by
  refine qbd c0cl 1 (by simp) (by simp) ?_
  unfold K.bad
  repeat' (first | refine ql ?_ | ((first | refine qn ?_ | refine qm ?_); simp only [go_sem, ↓reduceIte, Nat.reduceEqDiff, Nat.reduceAdd, Nat.reduceSub, Nat.reduceMul, Nat.reduceLT, Nat.reduceLeDiff, reduceCtorEq, Int.reduceToNat]) | ((first | refine qf ?_ ?_ | refine qd ?_ ?_) <;> intro hc <;> simp only [hc, go_sem, ↓reduceIte, Nat.reduceEqDiff, Nat.reduceAdd, Nat.reduceSub, Nat.reduceMul, Nat.reduceLT, Nat.reduceLeDiff, reduceCtorEq, Int.reduceToNat] <;> (try simp only [qb, qa, decide_eq_true_eq, decide_eq_false_iff_not, Bool.and_eq_true] at hc)) | refine And.intro (by first | assumption | omega | (have := qg (by assumption); omega) | (unfold qq; omega)) ?_ | fail)
section
variable {c : K} {L : List Ent} {Q : List Ent → VO → Prop} {Kk : Md → AV → List Ent → Prop}
theorem qgv (h : Q (curE c :: L) (.val (.bool c.bad))) : VApp Tryz.prog (curE c :: L) (.fn 36 [] []) [.ptr 0 0] Q := qb2 (qo8 c) (qbh _ _) (qbh _ _) rfl rfl fun _ => h
theorem q30 (h : Kk .here (.bool c.bad) (curE c :: L)) : DApp Tryz.prog (curE c :: L) (.fn 36 [] []) [.ptr 0 0] Kk := q14 (qo8 c) (qbh _ _) rfl rfl (fun _ => h) trivial
end
section
variable {c : K}
theorem qe7 (h : ¬ c.err = 0) : qbc c = T0 := if_neg h
theorem qq3 (h : c.err = 0) (h2 : (c.at' : Int) < c.l.length) : qbc c = c.l.getD c.at' T0 := by rw [qbc, if_pos h, if_pos (by omega)]
theorem qry (h : c.err = 0) (h2 : ¬ (c.at' : Int) < c.l.length) : qbc c = ⟨0, c.ep, 0, []⟩ := by rw [qbc, if_pos h, if_neg (by omega)]
theorem qrw (h : ¬ c.err = 0) : q8 c = c := if_neg h
theorem qq5 (h : c.err = 0) (h2 : (c.at' : Int) < c.l.length) : q8 c = { c with at' := c.at' + 1 } := by rw [q8, if_pos h, if_pos (by omega)]
theorem qs3 (h : c.err = 0) (h2 : ¬ (c.at' : Int) < c.l.length) : q8 c = c := by rw [q8, if_pos h, if_neg (by omega)]
theorem qfv {e : Int} (h : ¬ c.err = 0) : qfc c e = c := if_neg h
theorem qzq (h : c.err = 0) : qfc c 0 = { c with err := 1, pos := (qbc c).pos } := by rw [qfc, if_pos h, if_pos rfl]
theorem q2j {e : Int} (h : c.err = 0) (he : ¬ e = 0) : qfc c e = { c with err := e, pos := (qbc c).pos } := by rw [qfc, if_pos h, if_neg he]
end
section
variable {c : K} {x : List UInt8}
theorem q1y (h : isK c x = true) : qr c x = (q8 c, true) := if_pos h
theorem qtv (h : isK c x = false) : qr c x = (c, false) := by rw [qr, h]; rfl
theorem q3c (h : (qr c x).2 = true) : qu c x = ((qr c x).1, true) := by
  unfold qr qu at *
  split at h
  · rename_i h1; rw [if_pos h1, if_pos h1]
  · cases h
theorem q2g (h : (qr c x).2 = false) : qu c x = (qfc (qr c x).1 5, false) := by
  unfold qr qu at *
  split at h
  · cases h
  · rename_i h1; rw [if_neg h1, if_neg h1]
theorem qhh (h : ¬ c.err = 0) : qh c = (c, false) := if_neg h
theorem qsp (h : c.err = 0) (h2 : ¬ (200 : Int) ≤ c.nest) : qh c = ({ c with nest := c.nest + 1 }, true) := by rw [qh, if_pos h, if_pos (by omega)]
theorem qmt (h : c.err = 0) (h2 : (200 : Int) ≤ c.nest) : qh c = (qfc c 2, false) := by rw [qh, if_pos h, if_neg (by omega)]
theorem qpi (h : ¬ c.err = 0) : qcg c = c := if_neg h
theorem qtb (h : c.err = 0) (h2 : (0 : Int) < c.nest) : qcg c = { c with nest := c.nest - 1 } := by rw [qcg, if_pos h, if_pos (by omega)]
theorem qwo (h : c.err = 0) (h2 : ¬ (0 : Int) < c.nest) : qcg c = c := by rw [qcg, if_pos h, if_neg (by omega)]
theorem qmu (h : ¬ c.err = 0) : qja c = (c.pos, c.err) := if_neg h
theorem qp3 (h : c.err = 0) (h2 : (c.at' : Int) < c.l.length) : qja c = ((c.l.getD c.at' T0).pos, 5) := by rw [qja, if_pos h, if_pos (by omega)]
theorem qni (h : c.err = 0) (h2 : ¬ (c.at' : Int) < c.l.length) : qja c = (c.ep, 0) := by rw [qja, if_pos h, if_neg (by omega)]
end
theorem qwc (c : K) : qco Tryz.prog 15 (curE c) (curE c) [.ptr 0 0] (encT (qbc c)) := by
  refine qbd c0cm 1 (by simp) (by simp) ?_
  repeat' (first | refine ql ?_ | refine qk ?_ | ((first | refine qn ?_ | refine qx (by rfl) ?_ | refine qw ?_ | refine qm ?_ | refine qj ?_ | refine qi ?_ | refine qgv ?_); simp only [go_sem, ↓reduceIte, Nat.reduceEqDiff, Nat.reduceAdd, Nat.reduceSub, Nat.reduceMul, Nat.reduceLT, Nat.reduceLeDiff, reduceCtorEq, Int.reduceToNat]) | ((first | simp (disch := omega) only [qdr]); (try simp only [go_sem, ↓reduceIte, Nat.reduceEqDiff, Nat.reduceAdd, Nat.reduceSub, Nat.reduceMul, Nat.reduceLT, Nat.reduceLeDiff, reduceCtorEq, Int.reduceToNat])) | ((first | refine qf ?_ ?_ | refine qd ?_ ?_) <;> intro hc <;> simp only [hc, go_sem, ↓reduceIte, Nat.reduceEqDiff, Nat.reduceAdd, Nat.reduceSub, Nat.reduceMul, Nat.reduceLT, Nat.reduceLeDiff, reduceCtorEq, Int.reduceToNat] <;> (try simp only [qb, qa, decide_eq_true_eq, decide_eq_false_iff_not, Bool.and_eq_true] at hc)) | refine And.intro (by first | assumption | omega | (have := qg (by assumption); omega) | (unfold qq; omega)) ?_ | ((first | simp (disch := omega) only [qv] | simp (disch := omega) only [qbe]); (try simp only [go_sem, ↓reduceIte, Nat.reduceEqDiff, Nat.reduceAdd, Nat.reduceSub, Nat.reduceMul, Nat.reduceLT, Nat.reduceLeDiff, reduceCtorEq, Int.reduceToNat])))
  · rw [qe7 (qhb (by assumption))]; rfl
  · rw [qq3 (qg1 (by assumption)) (by assumption)]
  · rw [qry (qg1 (by assumption)) (by assumption)]; rfl
section
variable {c : K} {L : List Ent} {Q : List Ent → VO → Prop} {Kk : Md → AV → List Ent → Prop}
theorem qdt (h : Q (curE c :: L) (.val (encT (qbc c)))) : VApp Tryz.prog (curE c :: L) (.fn 15 [] []) [.ptr 0 0] Q := qb2 (qwc c) (qbh _ _) (qbh _ _) rfl rfl fun _ => h
end
def qdo (t : T) (ls : List (List UInt8)) : Bool := (decide (t.kind = 4) || decide (t.kind = 5)) && ls.contains t.text
theorem q3f (t : T) (ls : List (List UInt8)) : qbp Tryz.prog 79 [encT t, .sl 1 (ls.map AV.str)] (.bool (qdo t ls)) := by
  refine qba c0cn (by simp) (by simp only [go_sem]) rfl fun hw => ?_
  have h1 : ls.length ≤ maxLen := by have := hw.2.1.1; rwa [qvw] at this
  have loop : ∀ (Q : VE → AF → List Ent → Prop) (tm : List (Nat × AV)) (H : List Ent), qdo t ls = ls.contains t.text → H = [.blk [.int .i64 t.kind, .int .i64 t.pos, .int .i64 t.num, .str t.text]] →
      (get tm 2 = .ptr 0 0 ∧ get tm 15 = .sl 1 (ls.map AV.str) ∧ get tm 16 = .int .i64 ls.length ∧ get tm 17 = .int .i64 0) →
      Q = blq 0 (sq Tryz.prog none 26 0 (k0cn_r11.seq IC.ret) (retq 0 [(RV.t 4, Co.id)] fun H' o => o = VO.val (AV.bool (qdo t ls)))) →
      VI Tryz.prog none 26 0 k0cn_l4.loop Q ⟨tm, []⟩ H := by
    rintro Q tm H hwd rfl ⟨h2, h15, h16, h17⟩ rfl
    rw [hwd]
    refine qca (S := Nat) (fun i => i ≤ ls.length ∧ ls.contains t.text = (ls.drop i).contains t.text) (fun i => (⟨[(2, .ptr 0 0), (15, .sl 1 (ls.map AV.str)), (16, .int .i64 ls.length), (17, .int .i64 i)], []⟩, [.blk [.int .i64 t.kind, .int .i64 t.pos, .int .i64 t.num, .str t.text]])) (fun i => ls.length - i) ?_ fun i hi => ?_
    · refine qbq 0 [0] ⟨Nat.zero_le _, rfl⟩ rfl (by simp) ?_ ?_ ?_ <;> (try simp only [go_sem, ↓reduceIte, Nat.reduceEqDiff, Nat.reduceAdd, Nat.reduceSub, Nat.reduceMul, Nat.reduceLT, Nat.reduceLeDiff, reduceCtorEq, Int.reduceToNat]) <;> (try simp (disch := omega) only [qbe])
      exact ⟨h2, h15, h16, h17⟩
    · obtain ⟨hi, ha⟩ := hi
      repeat' (first | refine ql ?_ | refine qk ?_ | ((first | refine qn ?_ | refine qm ?_ | refine qs ?_ | refine qj ?_ | refine qi ?_); simp only [go_sem, ↓reduceIte, Nat.reduceEqDiff, Nat.reduceAdd, Nat.reduceSub, Nat.reduceMul, Nat.reduceLT, Nat.reduceLeDiff, reduceCtorEq, Int.reduceToNat]) | ((first | simp (disch := omega) only [qr3]); (try simp only [go_sem, ↓reduceIte, Nat.reduceEqDiff, Nat.reduceAdd, Nat.reduceSub, Nat.reduceMul, Nat.reduceLT, Nat.reduceLeDiff, reduceCtorEq, Int.reduceToNat])) | ((first | refine qf ?_ ?_ | refine qd ?_ ?_) <;> intro hc <;> simp only [hc, go_sem, ↓reduceIte, Nat.reduceEqDiff, Nat.reduceAdd, Nat.reduceSub, Nat.reduceMul, Nat.reduceLT, Nat.reduceLeDiff, reduceCtorEq, Int.reduceToNat] <;> (try simp only [qb, qa, decide_eq_true_eq, decide_eq_false_iff_not, Bool.and_eq_true] at hc)) | refine And.intro (by first | assumption | omega | (have := qg (by assumption); omega) | (unfold qq; omega)) ?_ | ((first | simp (disch := omega) only [qv] | simp (disch := omega) only [qbe]); (try simp only [go_sem, ↓reduceIte, Nat.reduceEqDiff, Nat.reduceAdd, Nat.reduceSub, Nat.reduceMul, Nat.reduceLT, Nat.reduceLeDiff, reduceCtorEq, Int.reduceToNat])))
      · rw [ha, qnh (i := i) (by omega), List.contains_cons, hc]; simp
      · refine qbq (i + 1) [0] ⟨⟨by omega, ?_⟩, by omega⟩ rfl (by simp) ?_ ?_ ?_ <;> (try simp only [go_sem, ↓reduceIte, Nat.reduceEqDiff, Nat.reduceAdd, Nat.reduceSub, Nat.reduceMul, Nat.reduceLT, Nat.reduceLeDiff, reduceCtorEq, Int.reduceToNat]) <;> (try simp (disch := omega) only [qbe])
        rw [ha, qnh (i := i) (by omega), List.contains_cons, beq_eq_false_iff_ne.2 hc, Bool.false_or]
      · rw [ha, List.drop_of_length_le (by omega)]; rfl
  repeat' (first | refine ql ?_ | refine qk ?_ | ((first | refine qn ?_ | refine qm ?_ | refine qs ?_ | refine qj ?_ | refine qi ?_); simp only [go_sem, ↓reduceIte, Nat.reduceEqDiff, Nat.reduceAdd, Nat.reduceSub, Nat.reduceMul, Nat.reduceLT, Nat.reduceLeDiff, reduceCtorEq, Int.reduceToNat]) | ((first | refine qf ?_ ?_ | refine qd ?_ ?_) <;> intro hc <;> simp only [hc, go_sem, ↓reduceIte, Nat.reduceEqDiff, Nat.reduceAdd, Nat.reduceSub, Nat.reduceMul, Nat.reduceLT, Nat.reduceLeDiff, reduceCtorEq, Int.reduceToNat] <;> (try simp only [qb, qa, decide_eq_true_eq, decide_eq_false_iff_not, Bool.and_eq_true] at hc)) | refine And.intro (by first | assumption | omega | (have := qg (by assumption); omega) | (unfold qq; omega)) ?_ | ((first | simp (disch := omega) only [qv] | simp (disch := omega) only [qbe]); (try simp only [go_sem, ↓reduceIte, Nat.reduceEqDiff, Nat.reduceAdd, Nat.reduceSub, Nat.reduceMul, Nat.reduceLT, Nat.reduceLeDiff, reduceCtorEq, Int.reduceToNat])))
  · rw [show qdo t ls = false by simp [qdo, *]]
  · exact loop _ _ _ (by simp [qdo, *]) rfl ⟨rfl, rfl, rfl, rfl⟩ rfl
  · exact loop _ _ _ (by simp [qdo, *]) rfl ⟨rfl, rfl, rfl, rfl⟩ rfl
theorem q8z (t : T) (x : List UInt8) : qdo t [x] = qh3 t x := by
  unfold qdo qh3
  congr 1
  by_cases h : t.text = x
  · simp [h]
  · simp [h]
theorem qqb (t : T) (x : List UInt8) : qbp Tryz.prog 79 [encT t, .sl 1 [.str x]] (.bool (qh3 t x)) := by
  rw [← q8z]; exact q3f t [x]
theorem q6r (c : K) (hk : c.ok) : qco Tryz.prog 44 (curE c) (curE (q8 c)) [.ptr 0 0] (encT (qbc c)) := by
  refine qbd c0co 1 (by simp) (by simp) ?_
  have h1 := hk.1
  have h2 := hk.2
  repeat' (first | refine ql ?_ | ((first | refine qn ?_ | refine qx (by rfl) ?_ | refine qw ?_ | refine qm ?_ | refine qj ?_ | refine qi ?_ | refine qgv ?_ | refine q30 ?_ | refine qdt ?_); simp only [go_sem, ↓reduceIte, Nat.reduceEqDiff, Nat.reduceAdd, Nat.reduceSub, Nat.reduceMul, Nat.reduceLT, Nat.reduceLeDiff, reduceCtorEq, Int.reduceToNat]) | ((first | simp (disch := omega) only [qbe]); (try simp only [go_sem, ↓reduceIte, Nat.reduceEqDiff, Nat.reduceAdd, Nat.reduceSub, Nat.reduceMul, Nat.reduceLT, Nat.reduceLeDiff, reduceCtorEq, Int.reduceToNat])) | ((first | refine qf ?_ ?_ | refine qd ?_ ?_) <;> intro hc <;> simp only [hc, go_sem, ↓reduceIte, Nat.reduceEqDiff, Nat.reduceAdd, Nat.reduceSub, Nat.reduceMul, Nat.reduceLT, Nat.reduceLeDiff, reduceCtorEq, Int.reduceToNat] <;> (try simp only [qb, qa, decide_eq_true_eq, decide_eq_false_iff_not, Bool.and_eq_true] at hc)) | refine And.intro (by first | assumption | omega | (have := qg (by assumption); omega) | (unfold qq; omega)) ?_ | ((first | simp (disch := omega) only [qv] | simp (disch := omega) only [qbe]); (try simp only [go_sem, ↓reduceIte, Nat.reduceEqDiff, Nat.reduceAdd, Nat.reduceSub, Nat.reduceMul, Nat.reduceLT, Nat.reduceLeDiff, reduceCtorEq, Int.reduceToNat])))
  · rw [qq5 (qg1 (by assumption)) (by assumption)]
  · rw [qs3 (qg1 (by assumption)) (by assumption)]
  · rw [qrw (qhb (by assumption))]
section
variable {c : K} {L : List Ent} {Q : List Ent → VO → Prop} {Kk : Md → AV → List Ent → Prop} {x : List UInt8} {e : Int}
theorem qin (hk : c.ok) (h : Q (curE (q8 c) :: L) (.val (encT (qbc c)))) : VApp Tryz.prog (curE c :: L) (.fn 44 [] []) [.ptr 0 0] Q := qb2 (q6r c hk) (qbh _ _) (qbh _ _) rfl rfl fun _ => h
theorem qbsj (c : K) (x : List UInt8) : qco Tryz.prog 45 (curE c) (curE c) [.ptr 0 0, .str x] (.bool (isK c x)) := by
  refine qbd c0cp 1 (by simp) (by simp) ?_
  repeat' (first | refine ql ?_ | ((first | refine qn ?_ | refine qm ?_ | refine qgv ?_ | refine qdt ?_ | refine qc (qqb _ _) fun _ => ?_ | refine qe  (qqb _ _) ?_); simp only [go_sem, ↓reduceIte, Nat.reduceEqDiff, Nat.reduceAdd, Nat.reduceSub, Nat.reduceMul, Nat.reduceLT, Nat.reduceLeDiff, reduceCtorEq, Int.reduceToNat]) | ((first | refine qf ?_ ?_ | refine qd ?_ ?_) <;> intro hc <;> simp only [hc, go_sem, ↓reduceIte, Nat.reduceEqDiff, Nat.reduceAdd, Nat.reduceSub, Nat.reduceMul, Nat.reduceLT, Nat.reduceLeDiff, reduceCtorEq, Int.reduceToNat] <;> (try simp only [qb, qa, decide_eq_true_eq, decide_eq_false_iff_not, Bool.and_eq_true] at hc)) | refine And.intro (by first | assumption | omega | (have := qg (by assumption); omega) | (unfold qq; omega)) ?_ | fail)
  · rw [isK, decide_eq_true (qg1 (by assumption))]; rfl
  · rw [isK, decide_eq_false (qhb (by assumption))]; rfl
theorem a_Is (h : Q (curE c :: L) (.val (.bool (isK c x)))) : VApp Tryz.prog (curE c :: L) (.fn 45 [] []) [.ptr 0 0, .str x] Q := qb2 (qbsj c x) (qbh _ _) (qbh _ _) rfl rfl fun _ => h
theorem qvx (c : K) (e : Int) : qco Tryz.prog 43 (curE c) (curE (qfc c e)) [.ptr 0 0, .int .i64 e] (.bool false) := by
  refine qbd c0cq 1 (by simp) (by simp) ?_
  repeat' (first | refine ql ?_ | ((first | refine qn ?_ | refine qm ?_ | refine qj ?_ | refine qi ?_ | refine qgv ?_ | refine qdt ?_); simp only [go_sem, ↓reduceIte, Nat.reduceEqDiff, Nat.reduceAdd, Nat.reduceSub, Nat.reduceMul, Nat.reduceLT, Nat.reduceLeDiff, reduceCtorEq, Int.reduceToNat]) | ((first | refine qf ?_ ?_ | refine qd ?_ ?_) <;> intro hc <;> simp only [hc, go_sem, ↓reduceIte, Nat.reduceEqDiff, Nat.reduceAdd, Nat.reduceSub, Nat.reduceMul, Nat.reduceLT, Nat.reduceLeDiff, reduceCtorEq, Int.reduceToNat] <;> (try simp only [qb, qa, decide_eq_true_eq, decide_eq_false_iff_not, Bool.and_eq_true] at hc)) | refine And.intro (by first | assumption | omega | (have := qg (by assumption); omega) | (unfold qq; omega)) ?_ | fail)
  · subst hc; rw [qzq (qg1 (by assumption))]
  · rw [q2j (qg1 (by assumption)) (by assumption)]
  · rw [qfv (qhb (by assumption))]
theorem qpk (h : Q (curE (qfc c e) :: L) (.val (.bool false))) : VApp Tryz.prog (curE c :: L) (.fn 43 [] []) [.ptr 0 0, .int .i64 e] Q := qb2 (qvx c e) (qbh _ _) (qbh _ _) rfl rfl fun _ => h
theorem qbrj {Kk : Md → AV → List Ent → Prop} (h : Kk (.meth 0 (curE c) (curE (qfc c e))) (.bool false) (curE (qfc c e) :: L)) : DApp Tryz.prog (curE c :: L) (.fn 43 [] []) [.ptr 0 0, .int .i64 e] Kk := qbvq (qvx c e) (qbh _ _) (qbh _ _) rfl rfl (by simp [curE]) h
theorem q5x (c : K) (hk : c.ok) (x : List UInt8) : qco Tryz.prog 21 (curE c) (curE (qr c x).1) [.ptr 0 0, .str x] (.bool (qr c x).2) := by
  refine qbd c0cr 1 (by simp) (by simp) ?_
  repeat' (first | refine ql ?_ | ((first | refine qn ?_ | refine qm ?_ | refine qj ?_ | refine qi ?_ | refine a_Is ?_ | refine qin hk ?_); simp only [go_sem, ↓reduceIte, Nat.reduceEqDiff, Nat.reduceAdd, Nat.reduceSub, Nat.reduceMul, Nat.reduceLT, Nat.reduceLeDiff, reduceCtorEq, Int.reduceToNat]) | ((first | refine qf ?_ ?_ | refine qd ?_ ?_) <;> intro hc <;> simp only [hc, go_sem, ↓reduceIte, Nat.reduceEqDiff, Nat.reduceAdd, Nat.reduceSub, Nat.reduceMul, Nat.reduceLT, Nat.reduceLeDiff, reduceCtorEq, Int.reduceToNat] <;> (try simp only [qb, qa, decide_eq_true_eq, decide_eq_false_iff_not, Bool.and_eq_true] at hc)) | refine And.intro (by first | assumption | omega | (have := qg (by assumption); omega) | (unfold qq; omega)) ?_ | fail)
  · rw [qtv (by assumption)]; exact ⟨rfl, rfl⟩
  · rw [q1y (by assumption)]; exact ⟨rfl, rfl⟩
theorem qe9 (hk : c.ok) (h : Q (curE (qr c x).1 :: L) (.val (.bool (qr c x).2))) : VApp Tryz.prog (curE c :: L) (.fn 21 [] []) [.ptr 0 0, .str x] Q := qb2 (q5x c hk x) (qbh _ _) (qbh _ _) rfl rfl fun _ => h
theorem q5j (c : K) (hk : c.ok) (x : List UInt8) : qco Tryz.prog 49 (curE c) (curE (qu c x).1) [.ptr 0 0, .str x] (.bool (qu c x).2) := by
  refine qbd c0cs 1 (by simp) (by simp) ?_
  repeat' (first | refine ql ?_ | ((first | refine qn ?_ | refine qm ?_ | refine qe9 hk ?_ | refine qpk ?_); simp only [go_sem, ↓reduceIte, Nat.reduceEqDiff, Nat.reduceAdd, Nat.reduceSub, Nat.reduceMul, Nat.reduceLT, Nat.reduceLeDiff, reduceCtorEq, Int.reduceToNat]) | ((first | refine qf ?_ ?_ | refine qd ?_ ?_) <;> intro hc <;> simp only [hc, go_sem, ↓reduceIte, Nat.reduceEqDiff, Nat.reduceAdd, Nat.reduceSub, Nat.reduceMul, Nat.reduceLT, Nat.reduceLeDiff, reduceCtorEq, Int.reduceToNat] <;> (try simp only [qb, qa, decide_eq_true_eq, decide_eq_false_iff_not, Bool.and_eq_true] at hc)) | refine And.intro (by first | assumption | omega | (have := qg (by assumption); omega) | (unfold qq; omega)) ?_ | fail)
  · rw [q3c (by assumption)]; exact ⟨rfl, rfl⟩
  · rw [q2g (by assumption)]; exact ⟨rfl, rfl⟩
theorem qdz (hk : c.ok) (h : Q (curE (qu c x).1 :: L) (.val (.bool (qu c x).2))) : VApp Tryz.prog (curE c :: L) (.fn 49 [] []) [.ptr 0 0, .str x] Q := qb2 (q5j c hk x) (qbh _ _) (qbh _ _) rfl rfl fun _ => h
theorem q2m (c : K) : qco Tryz.prog 30 (curE c) (curE (qh c).1) [.ptr 0 0] (.bool (qh c).2) := by
  refine qbd c0ct 1 (by simp) (by simp) ?_
  repeat' (first | refine ql ?_ | ((first | refine qn ?_ | refine qm ?_ | refine qj ?_ | refine qi ?_ | refine qgv ?_ | refine qpk ?_); simp only [go_sem, ↓reduceIte, Nat.reduceEqDiff, Nat.reduceAdd, Nat.reduceSub, Nat.reduceMul, Nat.reduceLT, Nat.reduceLeDiff, reduceCtorEq, Int.reduceToNat]) | ((first | refine qf ?_ ?_ | refine qd ?_ ?_) <;> intro hc <;> simp only [hc, go_sem, ↓reduceIte, Nat.reduceEqDiff, Nat.reduceAdd, Nat.reduceSub, Nat.reduceMul, Nat.reduceLT, Nat.reduceLeDiff, reduceCtorEq, Int.reduceToNat] <;> (try simp only [qb, qa, decide_eq_true_eq, decide_eq_false_iff_not, Bool.and_eq_true] at hc)) | refine And.intro (by first | assumption | omega | (have := qg (by assumption); omega) | (unfold qq; omega)) ?_ | ((first | simp (disch := omega) only [qv] | simp (disch := omega) only [qbe]); (try simp only [go_sem, ↓reduceIte, Nat.reduceEqDiff, Nat.reduceAdd, Nat.reduceSub, Nat.reduceMul, Nat.reduceLT, Nat.reduceLeDiff, reduceCtorEq, Int.reduceToNat])))
  · rw [qhh (qhb (by assumption)), qfv (qhb (by assumption))]; exact ⟨rfl, rfl⟩
  · rw [qmt (qg1 (by assumption)) (by assumption)]; exact ⟨rfl, rfl⟩
  · rw [qsp (qg1 (by assumption)) (by assumption), qe6 (by omega) (by unfold maxLen; omega)]; exact ⟨rfl, rfl⟩
theorem qg9 (h : Q (curE (qh c).1 :: L) (.val (.bool (qh c).2))) : VApp Tryz.prog (curE c :: L) (.fn 30 [] []) [.ptr 0 0] Q := qb2 (q2m c) (qbh _ _) (qbh _ _) rfl rfl fun _ => h
theorem qzl (c : K) (hn : c.nest ≤ 200) : qco Tryz.prog 32 (curE c) (curE (qcg c)) [.ptr 0 0] (.tup []) := by
  refine qbd c0cu 1 (by simp) (by simp) ?_
  repeat' (first | refine ql ?_ | ((first | refine qn ?_ | refine qm ?_ | refine qj ?_ | refine qi ?_ | refine qgv ?_); simp only [go_sem, ↓reduceIte, Nat.reduceEqDiff, Nat.reduceAdd, Nat.reduceSub, Nat.reduceMul, Nat.reduceLT, Nat.reduceLeDiff, reduceCtorEq, Int.reduceToNat]) | ((first | refine qf ?_ ?_ | refine qd ?_ ?_) <;> intro hc <;> simp only [hc, go_sem, ↓reduceIte, Nat.reduceEqDiff, Nat.reduceAdd, Nat.reduceSub, Nat.reduceMul, Nat.reduceLT, Nat.reduceLeDiff, reduceCtorEq, Int.reduceToNat] <;> (try simp only [qb, qa, decide_eq_true_eq, decide_eq_false_iff_not, Bool.and_eq_true] at hc)) | refine And.intro (by first | assumption | omega | (have := qg (by assumption); omega) | (unfold qq; omega)) ?_ | fail)
  · rw [qtb (qg1 (by assumption)) (by assumption), qe6 (by omega) (by unfold maxLen; omega)]
    simp only [List.cons.injEq, Ent.blk.injEq, AV.int.injEq, true_and, and_true]; omega
  · rw [qwo (qg1 (by assumption)) (by assumption)]
  · rw [qpi (qhb (by assumption))]
theorem qfs (hn : c.nest ≤ 200) (h : Q (curE (qcg c) :: L) (.val (.tup []))) : VApp Tryz.prog (curE c :: L) (.fn 32 [] []) [.ptr 0 0] Q := qb2 (qzl c hn) (qbh _ _) (qbh _ _) rfl rfl fun _ => h
theorem qvz (c : K) (hk : c.ok) : qco Tryz.prog 12 (curE c) (curE c) [.ptr 0 0] (.tup [.int .i64 (qja c).1, .int .i64 (qja c).2]) := by
  refine qbd c0cv 1 (by simp) (by simp) ?_
  repeat' (first | refine ql ?_ | refine qk ?_ | ((first | refine qn ?_ | refine qx (by rfl) ?_ | refine qw ?_ | refine qm ?_ | refine qj ?_ | refine qi ?_); simp only [go_sem, ↓reduceIte, Nat.reduceEqDiff, Nat.reduceAdd, Nat.reduceSub, Nat.reduceMul, Nat.reduceLT, Nat.reduceLeDiff, reduceCtorEq, Int.reduceToNat]) | ((first | simp (disch := omega) only [qdr]); (try simp only [go_sem, ↓reduceIte, Nat.reduceEqDiff, Nat.reduceAdd, Nat.reduceSub, Nat.reduceMul, Nat.reduceLT, Nat.reduceLeDiff, reduceCtorEq, Int.reduceToNat])) | ((first | refine qf ?_ ?_ | refine qd ?_ ?_) <;> intro hc <;> simp only [hc, go_sem, ↓reduceIte, Nat.reduceEqDiff, Nat.reduceAdd, Nat.reduceSub, Nat.reduceMul, Nat.reduceLT, Nat.reduceLeDiff, reduceCtorEq, Int.reduceToNat] <;> (try simp only [qb, qa, decide_eq_true_eq, decide_eq_false_iff_not, Bool.and_eq_true] at hc)) | refine And.intro (by first | assumption | omega | (have := qg (by assumption); omega) | (unfold qq; omega)) ?_ | ((first | simp (disch := omega) only [qv] | simp (disch := omega) only [qbe]); (try simp only [go_sem, ↓reduceIte, Nat.reduceEqDiff, Nat.reduceAdd, Nat.reduceSub, Nat.reduceMul, Nat.reduceLT, Nat.reduceLeDiff, reduceCtorEq, Int.reduceToNat])))
  · rw [qmu (by assumption)]
  · rw [qp3 (by assumption) (by assumption)]
  · rw [qni (by assumption) (by assumption)]
theorem qth (hk : c.ok) (h : Q (curE c :: L) (.val (.tup [.int .i64 (qja c).1, .int .i64 (qja c).2]))) : VApp Tryz.prog (curE c :: L) (.fn 12 [] []) [.ptr 0 0] Q := qb2 (qvz c hk) (qbh _ _) (qbh _ _) rfl rfl fun _ => h
end
set_option maxRecDepth 4000

theorem qyo {a : List T} {r : List AV} (h : AV.wfs (.sl 4 (qcy a) :: r)) : a.length ≤ maxLen := by
  have := h.1.1; rwa [qe8] at this
def refC (c : K) : AV := .agg [.sl 4 (qcy (c.l.drop c.at')), .int .i64 0, .int .i64 c.ep, .int .i64 0, .str [], .int .i64 c.nest, .int .i64 c.err, .int .i64 c.pos]
attribute [go_sem] refC
theorem q8w {l : List T} {i : Nat} : (l.drop i).length = l.length - i := List.length_drop
theorem q96 {l : List T} {i : Nat} (h : i < l.length) : (l.drop i).getD 0 T0 = l.getD i T0 := by rw [q6v h]; rfl
section
variable {c : K}
theorem qbu7 (h : ¬ ((c.l.drop c.at').length : Int) = 0) : (c.at' : Int) < c.l.length := by rw [q8w] at h; omega
theorem qbv0 (h : ((c.l.drop c.at').length : Int) = 0) : ¬ (c.at' : Int) < c.l.length := by rw [q8w] at h; omega
theorem q1p (h : (0 : Int) < (c.l.drop c.at').length) : (c.at' : Int) < c.l.length := by rw [q8w] at h; omega
theorem qz0 (h : ¬ (0 : Int) < (c.l.drop c.at').length) : ¬ (c.at' : Int) < c.l.length := by rw [q8w] at h; omega
end
theorem qxr {c : K} {x : List UInt8} (h : (qr c x).2 = false) : (qr c x).1 = c := by
  unfold qr at *
  split at h
  · cases h
  · rename_i h1; rw [if_neg h1]
theorem qt (c : K) : qbp Tryz.prog 16 [refC c] (encT (qbc c)) := by
  refine qba c0bz (by simp) (by simp only [go_sem]) rfl fun hw => ?_
  repeat' (first | refine ql ?_ | refine qk ?_ | ((first | refine qn ?_ | refine qm ?_ | refine qj ?_ | refine qi ?_); simp only [go_sem, ↓reduceIte, Nat.reduceEqDiff, Nat.reduceAdd, Nat.reduceSub, Nat.reduceMul, Nat.reduceLT, Nat.reduceLeDiff, reduceCtorEq, Int.reduceToNat]) | ((first | simp (disch := omega) only [qdr]); (try simp only [go_sem, ↓reduceIte, Nat.reduceEqDiff, Nat.reduceAdd, Nat.reduceSub, Nat.reduceMul, Nat.reduceLT, Nat.reduceLeDiff, reduceCtorEq, Int.reduceToNat])) | ((first | refine qf ?_ ?_ | refine qd ?_ ?_) <;> intro hc <;> simp only [hc, go_sem, ↓reduceIte, Nat.reduceEqDiff, Nat.reduceAdd, Nat.reduceSub, Nat.reduceMul, Nat.reduceLT, Nat.reduceLeDiff, reduceCtorEq, Int.reduceToNat] <;> (try simp only [qb, qa, decide_eq_true_eq, decide_eq_false_iff_not, Bool.and_eq_true] at hc)) | refine And.intro (by first | assumption | omega | (have := qg (by assumption); omega) | (unfold qq; omega)) ?_ | ((first | simp (disch := omega) only [qv] | simp (disch := omega) only [qbe]); (try simp only [go_sem, ↓reduceIte, Nat.reduceEqDiff, Nat.reduceAdd, Nat.reduceSub, Nat.reduceMul, Nat.reduceLT, Nat.reduceLeDiff, reduceCtorEq, Int.reduceToNat])))
  · rw [qe7 (by assumption)]; rfl
  · rw [qry (by assumption) (qbv0 (by assumption))]; rfl
  · rw [qq3 (by assumption) (qbu7 (by assumption)), q96 (by have := qbu7 (c := c) (by assumption); omega)]
theorem qcc (c : K) : qbp Tryz.prog 51 [refC c] (.tup [refC (q8 c), encT (qbc c)]) := by
  refine qba c0ca (by simp) (by simp only [go_sem]) (by simp only [go_sem]) fun hw => ?_
  repeat' (first | refine ql ?_ | ((first | refine qn ?_ | refine qx (by rfl) ?_ | refine qw ?_ | refine qm ?_ | refine qj ?_ | refine qi ?_ | refine qc (qt _) fun _ => ?_ | refine qe  (qt _) ?_); simp only [go_sem, ↓reduceIte, Nat.reduceEqDiff, Nat.reduceAdd, Nat.reduceSub, Nat.reduceMul, Nat.reduceLT, Nat.reduceLeDiff, reduceCtorEq, Int.reduceToNat]) | ((first | refine qf ?_ ?_ | refine qd ?_ ?_) <;> intro hc <;> simp only [hc, go_sem, ↓reduceIte, Nat.reduceEqDiff, Nat.reduceAdd, Nat.reduceSub, Nat.reduceMul, Nat.reduceLT, Nat.reduceLeDiff, reduceCtorEq, Int.reduceToNat] <;> (try simp only [qb, qa, decide_eq_true_eq, decide_eq_false_iff_not, Bool.and_eq_true] at hc)) | refine And.intro (by first | assumption | omega | (have := qg (by assumption); omega) | (unfold qq; omega)) ?_ | fail)
  · rw [qq5 (by assumption) (q1p (by assumption)), List.drop_drop]
  · rw [qs3 (by assumption) (qz0 (by assumption))]
  · rw [qrw (by assumption)]
theorem qi0 (t : T) (x : List UInt8) : qbp Tryz.prog 84 [encT t, .str x] (.bool (qh3 t x)) := by
  refine qba c0cb (by simp) (by simp only [go_sem]) rfl fun hw => ?_
  repeat' (first | refine ql ?_ | ((first | refine qn ?_ | refine qm ?_); simp only [go_sem, ↓reduceIte, Nat.reduceEqDiff, Nat.reduceAdd, Nat.reduceSub, Nat.reduceMul, Nat.reduceLT, Nat.reduceLeDiff, reduceCtorEq, Int.reduceToNat]) | ((first | refine qf ?_ ?_ | refine qd ?_ ?_) <;> intro hc <;> simp only [hc, go_sem, ↓reduceIte, Nat.reduceEqDiff, Nat.reduceAdd, Nat.reduceSub, Nat.reduceMul, Nat.reduceLT, Nat.reduceLeDiff, reduceCtorEq, Int.reduceToNat] <;> (try simp only [qb, qa, decide_eq_true_eq, decide_eq_false_iff_not, Bool.and_eq_true] at hc)) | refine And.intro (by first | assumption | omega | (have := qg (by assumption); omega) | (unfold qq; omega)) ?_ | fail)
  all_goals simp_all [qh3]
theorem qc0 (c : K) (x : List UInt8) : qbp Tryz.prog 52 [refC c, .str x] (.bool (isK c x)) := by
  refine qba c0cc (by simp) (by simp only [go_sem]) rfl fun hw => ?_
  repeat' (first | refine ql ?_ | ((first | refine qn ?_ | refine qm ?_ | refine qc (qt c) fun _ => ?_ | refine qc (qi0 _ _) fun _ => ?_ | refine qe  (qt c) ?_ | refine qe  (qi0 _ _) ?_); simp only [go_sem, ↓reduceIte, Nat.reduceEqDiff, Nat.reduceAdd, Nat.reduceSub, Nat.reduceMul, Nat.reduceLT, Nat.reduceLeDiff, reduceCtorEq, Int.reduceToNat]) | ((first | refine qf ?_ ?_ | refine qd ?_ ?_) <;> intro hc <;> simp only [hc, go_sem, ↓reduceIte, Nat.reduceEqDiff, Nat.reduceAdd, Nat.reduceSub, Nat.reduceMul, Nat.reduceLT, Nat.reduceLeDiff, reduceCtorEq, Int.reduceToNat] <;> (try simp only [qb, qa, decide_eq_true_eq, decide_eq_false_iff_not, Bool.and_eq_true] at hc)) | refine And.intro (by first | assumption | omega | (have := qg (by assumption); omega) | (unfold qq; omega)) ?_ | fail)
  all_goals simp_all [isK]
theorem qbi (c : K) (x : List UInt8) : qbp Tryz.prog 25 [refC c, .str x] (.tup [refC (qr c x).1, .bool (qr c x).2]) := by
  refine qba c0cd (by simp) (by simp only [go_sem]) (by simp only [go_sem]) fun hw => ?_
  repeat' (first | refine ql ?_ | ((first | refine qn ?_ | refine qm ?_ | refine qj ?_ | refine qi ?_ | refine qc (qc0 _ _) fun _ => ?_ | refine qc (qcc _) fun _ => ?_ | refine qe  (qc0 _ _) ?_ | refine qe  (qcc _) ?_); simp only [go_sem, ↓reduceIte, Nat.reduceEqDiff, Nat.reduceAdd, Nat.reduceSub, Nat.reduceMul, Nat.reduceLT, Nat.reduceLeDiff, reduceCtorEq, Int.reduceToNat]) | ((first | refine qf ?_ ?_ | refine qd ?_ ?_) <;> intro hc <;> simp only [hc, go_sem, ↓reduceIte, Nat.reduceEqDiff, Nat.reduceAdd, Nat.reduceSub, Nat.reduceMul, Nat.reduceLT, Nat.reduceLeDiff, reduceCtorEq, Int.reduceToNat] <;> (try simp only [qb, qa, decide_eq_true_eq, decide_eq_false_iff_not, Bool.and_eq_true] at hc)) | refine And.intro (by first | assumption | omega | (have := qg (by assumption); omega) | (unfold qq; omega)) ?_ | fail)
  · rw [qtv (by assumption)]
  · rw [q1y (by assumption)]
theorem qcz (c : K) (e : Int) : qbp Tryz.prog 50 [refC c, .int .i64 e] (refC (qfc c e)) := by
  refine qba c0ce (by simp) (by simp only [go_sem]) (by simp only [go_sem]) fun hw => ?_
  repeat' (first | refine ql ?_ | ((first | refine qn ?_ | refine qm ?_ | refine qj ?_ | refine qi ?_ | refine qc (qt c) fun _ => ?_ | refine qe  (qt c) ?_); simp only [go_sem, ↓reduceIte, Nat.reduceEqDiff, Nat.reduceAdd, Nat.reduceSub, Nat.reduceMul, Nat.reduceLT, Nat.reduceLeDiff, reduceCtorEq, Int.reduceToNat]) | ((first | refine qf ?_ ?_ | refine qd ?_ ?_) <;> intro hc <;> simp only [hc, go_sem, ↓reduceIte, Nat.reduceEqDiff, Nat.reduceAdd, Nat.reduceSub, Nat.reduceMul, Nat.reduceLT, Nat.reduceLeDiff, reduceCtorEq, Int.reduceToNat] <;> (try simp only [qb, qa, decide_eq_true_eq, decide_eq_false_iff_not, Bool.and_eq_true] at hc)) | refine And.intro (by first | assumption | omega | (have := qg (by assumption); omega) | (unfold qq; omega)) ?_ | fail)
  · rw [qfv (by assumption)]
  · subst hc; rw [qzq (by assumption)]
  · rw [q2j (by assumption) (by assumption)]
theorem qbf (c : K) (x : List UInt8) : qbp Tryz.prog 28 [refC c, .str x] (.tup [refC (qu c x).1, .bool (qu c x).2]) := by
  refine qba c0cf (by simp) (by simp only [go_sem]) (by simp only [go_sem]) fun hw => ?_
  repeat' (first | refine ql ?_ | ((first | refine qn ?_ | refine qm ?_ | refine qj ?_ | refine qi ?_ | refine qc (qbi _ _) fun _ => ?_ | refine qc (qcz _ _) fun _ => ?_ | refine qe  (qbi _ _) ?_ | refine qe  (qcz _ _) ?_); simp only [go_sem, ↓reduceIte, Nat.reduceEqDiff, Nat.reduceAdd, Nat.reduceSub, Nat.reduceMul, Nat.reduceLT, Nat.reduceLeDiff, reduceCtorEq, Int.reduceToNat]) | ((first | refine qf ?_ ?_ | refine qd ?_ ?_) <;> intro hc <;> simp only [hc, go_sem, ↓reduceIte, Nat.reduceEqDiff, Nat.reduceAdd, Nat.reduceSub, Nat.reduceMul, Nat.reduceLT, Nat.reduceLeDiff, reduceCtorEq, Int.reduceToNat] <;> (try simp only [qb, qa, decide_eq_true_eq, decide_eq_false_iff_not, Bool.and_eq_true] at hc)) | refine And.intro (by first | assumption | omega | (have := qg (by assumption); omega) | (unfold qq; omega)) ?_ | fail)
  · rw [q2g (by assumption), qxr (by assumption)]
  · rw [q3c (by assumption)]
theorem qcn (c : K) : qbp Tryz.prog 33 [refC c] (.tup [refC (qh c).1, .bool (qh c).2]) := by
  refine qba c0cg (by simp) (by simp only [go_sem]) (by simp only [go_sem]) fun hw => ?_
  repeat' (first | refine ql ?_ | ((first | refine qn ?_ | refine qm ?_ | refine qj ?_ | refine qi ?_ | refine qc (qcz c _) fun _ => ?_ | refine qe  (qcz c _) ?_); simp only [go_sem, ↓reduceIte, Nat.reduceEqDiff, Nat.reduceAdd, Nat.reduceSub, Nat.reduceMul, Nat.reduceLT, Nat.reduceLeDiff, reduceCtorEq, Int.reduceToNat]) | ((first | refine qf ?_ ?_ | refine qd ?_ ?_) <;> intro hc <;> simp only [hc, go_sem, ↓reduceIte, Nat.reduceEqDiff, Nat.reduceAdd, Nat.reduceSub, Nat.reduceMul, Nat.reduceLT, Nat.reduceLeDiff, reduceCtorEq, Int.reduceToNat] <;> (try simp only [qb, qa, decide_eq_true_eq, decide_eq_false_iff_not, Bool.and_eq_true] at hc)) | refine And.intro (by first | assumption | omega | (have := qg (by assumption); omega) | (unfold qq; omega)) ?_ | ((first | simp (disch := omega) only [qv] | simp (disch := omega) only [qbe]); (try simp only [go_sem, ↓reduceIte, Nat.reduceEqDiff, Nat.reduceAdd, Nat.reduceSub, Nat.reduceMul, Nat.reduceLT, Nat.reduceLeDiff, reduceCtorEq, Int.reduceToNat])))
  · rw [qhh (by assumption)]
  · rw [qmt (by assumption) (by assumption)]
  · rw [qsp (by assumption) (by assumption), qe6 (by omega) (by unfold maxLen; omega)]; rfl
theorem qby (c : K) (hn : c.nest ≤ 200) : qbp Tryz.prog 35 [refC c] (refC (qcg c)) := by
  refine qba c0ch (by simp) (by simp only [go_sem]) (by simp only [go_sem]) fun hw => ?_
  repeat' (first | refine ql ?_ | ((first | refine qn ?_ | refine qm ?_ | refine qj ?_ | refine qi ?_); simp only [go_sem, ↓reduceIte, Nat.reduceEqDiff, Nat.reduceAdd, Nat.reduceSub, Nat.reduceMul, Nat.reduceLT, Nat.reduceLeDiff, reduceCtorEq, Int.reduceToNat]) | ((first | refine qf ?_ ?_ | refine qd ?_ ?_) <;> intro hc <;> simp only [hc, go_sem, ↓reduceIte, Nat.reduceEqDiff, Nat.reduceAdd, Nat.reduceSub, Nat.reduceMul, Nat.reduceLT, Nat.reduceLeDiff, reduceCtorEq, Int.reduceToNat] <;> (try simp only [qb, qa, decide_eq_true_eq, decide_eq_false_iff_not, Bool.and_eq_true] at hc)) | refine And.intro (by first | assumption | omega | (have := qg (by assumption); omega) | (unfold qq; omega)) ?_ | fail)
  · rw [qtb (by assumption) (by assumption), qe6 (by omega) (by unfold maxLen; omega)]
    simp only [VO.val.injEq, AV.agg.injEq, List.cons.injEq, AV.int.injEq, true_and, and_true]; omega
  · rw [qwo (by assumption) (by assumption)]
  · rw [qpi (by assumption)]
theorem qey (c : K) : qbp Tryz.prog 13 [refC c] (.tup [.int .i64 (qja c).1, .int .i64 (qja c).2]) := by
  refine qba c0ci (by simp) (by simp only [go_sem]) rfl fun hw => ?_
  repeat' (first | refine ql ?_ | refine qk ?_ | ((first | refine qn ?_ | refine qx (by rfl) ?_ | refine qw ?_ | refine qm ?_ | refine qj ?_ | refine qi ?_); simp only [go_sem, ↓reduceIte, Nat.reduceEqDiff, Nat.reduceAdd, Nat.reduceSub, Nat.reduceMul, Nat.reduceLT, Nat.reduceLeDiff, reduceCtorEq, Int.reduceToNat]) | ((first | simp (disch := omega) only [qdr]); (try simp only [go_sem, ↓reduceIte, Nat.reduceEqDiff, Nat.reduceAdd, Nat.reduceSub, Nat.reduceMul, Nat.reduceLT, Nat.reduceLeDiff, reduceCtorEq, Int.reduceToNat])) | ((first | refine qf ?_ ?_ | refine qd ?_ ?_) <;> intro hc <;> simp only [hc, go_sem, ↓reduceIte, Nat.reduceEqDiff, Nat.reduceAdd, Nat.reduceSub, Nat.reduceMul, Nat.reduceLT, Nat.reduceLeDiff, reduceCtorEq, Int.reduceToNat] <;> (try simp only [qb, qa, decide_eq_true_eq, decide_eq_false_iff_not, Bool.and_eq_true] at hc)) | refine And.intro (by first | assumption | omega | (have := qg (by assumption); omega) | (unfold qq; omega)) ?_ | ((first | simp (disch := omega) only [qv] | simp (disch := omega) only [qbe]); (try simp only [go_sem, ↓reduceIte, Nat.reduceEqDiff, Nat.reduceAdd, Nat.reduceSub, Nat.reduceMul, Nat.reduceLT, Nat.reduceLeDiff, reduceCtorEq, Int.reduceToNat])))
  · rw [qmu (by assumption)]
  · rw [qp3 (by assumption) (q1p (by assumption)), q96 (by have := q1p (c := c) (by assumption); omega)]
  · rw [qni (by assumption) (qz0 (by assumption))]
/-- The words ahead of the first end. -/
def qhg : List T → List T
  | [] => []
  | t :: r => if t.kind = 0 then [] else t :: qhg r
def endT : List T → Int
  | [] => 0
  | t :: r => if t.kind = 0 then t.pos else endT r
def newK (l : List T) : K := ⟨qhg l, endT l, 0, 0, 0, 0⟩
theorem qlc : ∀ l : List T, (qhg l).length ≤ l.length
  | [] => Nat.le_refl _
  | t :: r => by
    rw [qhg]
    split
    · exact Nat.zero_le _
    · have := qlc r; simp only [List.length_cons]; omega
theorem qrr {l : List T} {i : Nat} (h1 : ∀ t ∈ l.take i, t.kind ≠ 0) (h : i < l.length) (h2 : (l.getD i T0).kind = 0) : qhg l = l.take i ∧ endT l = (l.getD i T0).pos := by
  induction l generalizing i with
  | nil => simp at h
  | cons t r ih =>
    cases i with
    | zero => simp only [List.getD_cons_zero] at h2 ⊢; rw [qhg, endT, if_pos h2, if_pos h2]; exact ⟨rfl, rfl⟩
    | succ i =>
      have ht := h1 t (by simp)
      obtain ⟨g1, g2⟩ := ih (fun u hu => h1 u (List.mem_cons_of_mem t hu)) (by simpa using h) (by simpa using h2)
      rw [qhg, endT, if_neg ht, if_neg ht, g1, g2]
      exact ⟨rfl, rfl⟩
theorem qti {l : List T} (h1 : ∀ t ∈ l, t.kind ≠ 0) : qhg l = l ∧ endT l = 0 := by
  induction l with
  | nil => exact ⟨rfl, rfl⟩
  | cons t r ih =>
    obtain ⟨g1, g2⟩ := ih fun u hu => h1 u (by simp [hu])
    rw [qhg, endT, if_neg (h1 t (by simp)), if_neg (h1 t (by simp)), g1, g2]
    exact ⟨rfl, rfl⟩
theorem qhu {a : List T} {i : Nat} (h : i < a.length) {p : T → Prop} (h1 : ∀ t ∈ a.take i, p t) (h2 : p (a.getD i T0)) : ∀ t ∈ a.take (i + 1), p t := by
  intro t ht
  rw [List.take_add_one, List.getElem?_eq_getElem h] at ht
  rcases List.mem_append.1 ht with ht | ht
  · exact h1 t ht
  · simp only [Option.toList_some, List.mem_singleton] at ht
    subst ht
    rwa [List.getD_eq_getElem?_getD, List.getElem?_eq_getElem h] at h2
theorem qrn (l : List T) : qbp Tryz.prog 7 [.sl 4 (qcy l)] (refC (newK l)) := by
  refine qba c0cj (by simp) (by simp only [go_sem]) (by simp only [go_sem]) fun hw => ?_
  have h1 := qyo hw
  repeat' (first | refine ql ?_ | refine qk ?_ | ((first | refine qn ?_ | refine qx (by rfl) ?_ | refine qw ?_ | refine qm ?_ | refine qs ?_ | refine qj ?_ | refine qi ?_); simp only [go_sem, ↓reduceIte, Nat.reduceEqDiff, Nat.reduceAdd, Nat.reduceSub, Nat.reduceMul, Nat.reduceLT, Nat.reduceLeDiff, reduceCtorEq, Int.reduceToNat]) | ((first | refine qf ?_ ?_ | refine qd ?_ ?_) <;> intro hc <;> simp only [hc, go_sem, ↓reduceIte, Nat.reduceEqDiff, Nat.reduceAdd, Nat.reduceSub, Nat.reduceMul, Nat.reduceLT, Nat.reduceLeDiff, reduceCtorEq, Int.reduceToNat] <;> (try simp only [qb, qa, decide_eq_true_eq, decide_eq_false_iff_not, Bool.and_eq_true] at hc)) | refine And.intro (by first | assumption | omega | (have := qg (by assumption); omega) | (unfold qq; omega)) ?_ | ((first | simp (disch := omega) only [qv] | simp (disch := omega) only [qbe]); (try simp only [go_sem, ↓reduceIte, Nat.reduceEqDiff, Nat.reduceAdd, Nat.reduceSub, Nat.reduceMul, Nat.reduceLT, Nat.reduceLeDiff, reduceCtorEq, Int.reduceToNat])))
  refine qca (S := Nat) (fun i => i ≤ l.length ∧ ∀ t ∈ l.take i, t.kind ≠ 0) (fun i => (⟨[(0, .sl 4 (qcy l)), (2, .ptr 0 0), (3, .int .i64 i)], []⟩, [.blk [.nils, .int .i64 0, .int .i64 0, .int .i64 0, .str [], .int .i64 0, .int .i64 0, .int .i64 0]])) (fun i => l.length - i) ?_ fun i hi => ?_
  · refine qbq 0 [0] ⟨Nat.zero_le _, by simp⟩ rfl (by simp) ?_ ?_ ?_ <;> (try simp only [go_sem, ↓reduceIte, Nat.reduceEqDiff, Nat.reduceAdd, Nat.reduceSub, Nat.reduceMul, Nat.reduceLT, Nat.reduceLeDiff, reduceCtorEq, Int.reduceToNat]) <;> (try simp (disch := omega) only [qbe])
  · obtain ⟨hi, ha⟩ := hi
    repeat' (first | refine ql ?_ | refine qk ?_ | ((first | refine qn ?_ | refine qx (by rfl) ?_ | refine qw ?_ | refine qm ?_ | refine qs ?_ | refine qj ?_ | refine qi ?_); simp only [go_sem, ↓reduceIte, Nat.reduceEqDiff, Nat.reduceAdd, Nat.reduceSub, Nat.reduceMul, Nat.reduceLT, Nat.reduceLeDiff, reduceCtorEq, Int.reduceToNat]) | ((first | simp (disch := omega) only [qdr]); (try simp only [go_sem, ↓reduceIte, Nat.reduceEqDiff, Nat.reduceAdd, Nat.reduceSub, Nat.reduceMul, Nat.reduceLT, Nat.reduceLeDiff, reduceCtorEq, Int.reduceToNat])) | ((first | refine qf ?_ ?_ | refine qd ?_ ?_) <;> intro hc <;> simp only [hc, go_sem, ↓reduceIte, Nat.reduceEqDiff, Nat.reduceAdd, Nat.reduceSub, Nat.reduceMul, Nat.reduceLT, Nat.reduceLeDiff, reduceCtorEq, Int.reduceToNat] <;> (try simp only [qb, qa, decide_eq_true_eq, decide_eq_false_iff_not, Bool.and_eq_true] at hc)) | refine And.intro (by first | assumption | omega | (have := qg (by assumption); omega) | (unfold qq; omega)) ?_ | ((first | simp (disch := omega) only [qv] | simp (disch := omega) only [qbe]); (try simp only [go_sem, ↓reduceIte, Nat.reduceEqDiff, Nat.reduceAdd, Nat.reduceSub, Nat.reduceMul, Nat.reduceLT, Nat.reduceLeDiff, reduceCtorEq, Int.reduceToNat])))
    · obtain ⟨g1, g2⟩ := qrr ha (by omega) (by assumption)
      rw [newK, g1, g2]; rfl
    · refine qbq (i + 1) [0] ⟨⟨by omega, qhu (by omega) ha (by assumption)⟩, by omega⟩ rfl (by simp) ?_ ?_ ?_ <;> (try simp only [go_sem, ↓reduceIte, Nat.reduceEqDiff, Nat.reduceAdd, Nat.reduceSub, Nat.reduceMul, Nat.reduceLT, Nat.reduceLeDiff, reduceCtorEq, Int.reduceToNat]) <;> (try simp (disch := omega) only [qbe])
    · rw [List.take_of_length_le (by omega)] at ha
      obtain ⟨g1, g2⟩ := qti ha
      rw [newK, g1, g2]; rfl
theorem qbup (x : Ent) (es : List AV) : co (x :: accE 4 es) (.sl 4) (accV 1 es) = .sl 4 es := by
  cases es with
  | nil => rw [qbs, qpu]
  | cons e es =>
    rw [qb9 (by simp), qsw, qb7 (by simp)]
    simp only [ent, q1i, if_true]
def q0m (l : List T) (i : Nat) : AF × List Ent :=
  (⟨[(3, .ptr 0 0), (8, .sl 4 (qcy l)), (9, .int .i64 l.length), (10, .int .i64 i)], []⟩,
    .blk [accV 1 (qcy (l.take i)), .int .i64 0, .int .i64 0, .int .i64 0, .str [], .int .i64 0, .int .i64 0, .int .i64 0, .int .i64 0] :: accE 4 (qcy (l.take i)))
theorem qj5 {l : List T} (h : l ≠ []) : qcy l ≠ [] := by cases l with | nil => exact absurd rfl h | cons _ _ => simp [qcy]
theorem qww {l : List T} {i : Nat} (h : i < l.length) : l.take (i + 1) = l.take i ++ [l.getD i T0] := by
  rw [List.take_add_one, List.getElem?_eq_getElem h, List.getD_eq_getElem?_getD, List.getElem?_eq_getElem h]; rfl
theorem capT {n : Nat} (h : n ≤ 1048580) : qq n 40 := by unfold qq; omega
theorem qqf (l : List T) (hl : l.length ≤ 1048577) : VCalls Tryz.prog 6 [] [.sl 4 (qcy l)] fun H' o => H' = [curE (newK l)] ∧ o = .val (.ptr 0 0) := by
  refine qbd c0ck 1 (by simp) (by simp) ?_
  have hmx : (1048577 : Nat) ≤ maxLen := by unfold maxLen; omega
  repeat' (first | refine ql ?_ | refine qk ?_ | ((first | refine qn ?_ | refine qx (by rfl) ?_ | refine qw ?_ | refine qm ?_ | refine qs ?_ | refine qj ?_ | refine qi ?_); simp only [go_sem, ↓reduceIte, Nat.reduceEqDiff, Nat.reduceAdd, Nat.reduceSub, Nat.reduceMul, Nat.reduceLT, Nat.reduceLeDiff, reduceCtorEq, Int.reduceToNat]) | ((first | refine qf ?_ ?_ | refine qd ?_ ?_) <;> intro hc <;> simp only [hc, go_sem, ↓reduceIte, Nat.reduceEqDiff, Nat.reduceAdd, Nat.reduceSub, Nat.reduceMul, Nat.reduceLT, Nat.reduceLeDiff, reduceCtorEq, Int.reduceToNat] <;> (try simp only [qb, qa, decide_eq_true_eq, decide_eq_false_iff_not, Bool.and_eq_true] at hc)) | refine And.intro (by first | assumption | omega | (have := qg (by assumption); omega) | (unfold qq; omega)) ?_ | ((first | simp (disch := omega) only [qv] | simp (disch := omega) only [qbe]); (try simp only [go_sem, ↓reduceIte, Nat.reduceEqDiff, Nat.reduceAdd, Nat.reduceSub, Nat.reduceMul, Nat.reduceLT, Nat.reduceLeDiff, reduceCtorEq, Int.reduceToNat])))
  refine qca (S := Nat) (fun i => i ≤ l.length ∧ ∀ t ∈ l.take i, t.kind ≠ 0) (q0m l) (fun i => l.length - i) ?_ fun i hi => ?_
  · refine qbq 0 [0] ⟨Nat.zero_le _, by simp⟩ rfl (by simp) ?_ ?_ ?_ <;> simp only [q0m, List.take_zero, qgu, qbs, qbu] <;> (try simp only [go_sem, ↓reduceIte, Nat.reduceEqDiff, Nat.reduceAdd, Nat.reduceSub, Nat.reduceMul, Nat.reduceLT, Nat.reduceLeDiff, reduceCtorEq, Int.reduceToNat]) <;> (try simp (disch := omega) only [qbe])
  · obtain ⟨hi, ha⟩ := hi
    unfold q0m
    by_cases hx : i < l.length ∧ (l.getD i T0).kind ≠ 0
    · have hT : AV.agg [.int .i64 (l.getD i T0).kind, .int .i64 (l.getD i T0).pos, .int .i64 (l.getD i T0).num, .str (l.getD i T0).text] = encT (l.getD i T0) := rfl
      have hts := qww hx.1
      have hne : qcy (l.take (i + 1)) ≠ [] := qj5 (by rw [hts]; simp)
      have hlen : (l.take (i + 1)).length = i + 1 := by rw [List.length_take]; omega
      by_cases h0 : i = 0
      · subst h0
        simp only [List.take_zero, qgu, qbs, qbu]
        repeat' (first | refine ql ?_ | refine qk ?_ | ((first | refine qn ?_ | refine qx (by rfl) ?_ | refine qw ?_ | refine qm ?_ | refine qs ?_ | refine qj ?_ | refine qi ?_); simp only [go_sem, ↓reduceIte, Nat.reduceEqDiff, Nat.reduceAdd, Nat.reduceSub, Nat.reduceMul, Nat.reduceLT, Nat.reduceLeDiff, reduceCtorEq, Int.reduceToNat]) | ((first | simp (disch := omega) only [qdr]); (try simp only [go_sem, ↓reduceIte, Nat.reduceEqDiff, Nat.reduceAdd, Nat.reduceSub, Nat.reduceMul, Nat.reduceLT, Nat.reduceLeDiff, reduceCtorEq, Int.reduceToNat])) | ((first | refine qf ?_ ?_ | refine qd ?_ ?_) <;> intro hc <;> simp only [hc, go_sem, ↓reduceIte, Nat.reduceEqDiff, Nat.reduceAdd, Nat.reduceSub, Nat.reduceMul, Nat.reduceLT, Nat.reduceLeDiff, reduceCtorEq, Int.reduceToNat] <;> (try simp only [qb, qa, decide_eq_true_eq, decide_eq_false_iff_not, Bool.and_eq_true] at hc)) | refine And.intro (by first | assumption | omega | (have := qg (by assumption); omega) | (unfold qq; omega)) ?_ | ((first | simp (disch := omega) only [qv] | simp (disch := omega) only [qbe]); (try simp only [go_sem, ↓reduceIte, Nat.reduceEqDiff, Nat.reduceAdd, Nat.reduceSub, Nat.reduceMul, Nat.reduceLT, Nat.reduceLeDiff, reduceCtorEq, Int.reduceToNat])))
        · exact absurd (by assumption) hx.2
        · refine qbq 1 [0, 2] ⟨⟨by omega, qhu (by omega) ha hx.2⟩, by omega⟩ rfl (by simp) ?_ ?_ ?_
          all_goals simp only [q0m, qb9 hne, qb7 hne, qe8, hlen]
          all_goals (try simp only [Nat.zero_add] at hts)
          all_goals simp only [hts, List.take_zero, List.nil_append]
          all_goals simp only [go_sem, ↓reduceIte, Nat.reduceEqDiff, Nat.reduceAdd, Nat.reduceSub, Nat.reduceMul, Nat.reduceLT, Nat.reduceLeDiff, reduceCtorEq, Int.reduceToNat]
          all_goals first | exact ⟨rfl, rfl⟩ | exact congrArg _ (by decide) | rfl | trace_state
        · omega
      · have hne0 : qcy (l.take i) ≠ [] := qj5 (by intro e; have := congrArg List.length e; simp only [List.length_take, List.length_nil] at this; omega)
        have hli : (l.take i).length = i := by rw [List.length_take]; omega
        simp only [qb9 hne0, qb7 hne0, qe8]
        have hat : ∀ ac : List T, ac = l.take i → qcy ac ++ [encT (l.getD i T0)] = qcy (l.take (i + 1)) := fun ac e => by rw [e, qgi, hts]
        generalize hac : l.take i = ac at *
        have hcap : qq (ac.length + 1) 40 := capT (by omega)
        have hil : (i : Int) < l.length := by omega
        have hkd := hx.2
        repeat' (first | refine ql ?_ | refine qk ?_ | ((first | refine qn ?_ | refine qx (by rfl) ?_ | refine qw ?_ | refine qm ?_ | refine qs ?_ | refine qj ?_ | refine qi ?_); simp (disch := first | omega | (simp only [List.length_set, List.length_append, List.length_cons, List.length_nil]; done) | (simp only [List.length_set, List.length_append, List.length_cons, List.length_nil]; omega)) only [hil, hkd, qdr, ne_eq, go_sem, ↓reduceIte, Nat.reduceEqDiff, Nat.reduceAdd, Nat.reduceSub, Nat.reduceMul, Nat.reduceLT, Nat.reduceLeDiff, reduceCtorEq, Int.reduceToNat]) | ((first | refine qf ?_ ?_ | refine qd ?_ ?_) <;> intro hc <;> simp only [hc, go_sem, ↓reduceIte, Nat.reduceEqDiff, Nat.reduceAdd, Nat.reduceSub, Nat.reduceMul, Nat.reduceLT, Nat.reduceLeDiff, reduceCtorEq, Int.reduceToNat] <;> (try simp only [qb, qa, decide_eq_true_eq, decide_eq_false_iff_not, Bool.and_eq_true] at hc)) | refine And.intro (by first | assumption | omega | (have := qg (by assumption); omega) | (unfold qq; omega)) ?_ | ((first | simp (disch := omega) only [qv] | simp (disch := omega) only [qbe]); (try simp only [go_sem, ↓reduceIte, Nat.reduceEqDiff, Nat.reduceAdd, Nat.reduceSub, Nat.reduceMul, Nat.reduceLT, Nat.reduceLeDiff, reduceCtorEq, Int.reduceToNat])))
        · refine qbq (i + 1) [0, 3] ⟨⟨by omega, qhu (by omega) (by rw [hac]; exact ha) hx.2⟩, by omega⟩ rfl (by simp) ?_ ?_ ?_
          all_goals simp only [q0m, qb9 hne, qb7 hne, qe8, hlen]
          all_goals rw [← hat ac rfl]
          all_goals simp only [go_sem, ↓reduceIte, Nat.reduceEqDiff, Nat.reduceAdd, Nat.reduceSub, Nat.reduceMul, Nat.reduceLT, Nat.reduceLeDiff, reduceCtorEq, Int.reduceToNat]
          rw [hli, qgi ac, qiu]
          exact ⟨rfl, qhs _ _, rfl⟩
    · refine qpy 0 0 (.sl 4) rfl ?_
      simp only [List.set_cons_zero, List.getD_cons_zero, qbup]
      repeat' (first | refine ql ?_ | refine qk ?_ | ((first | refine qn ?_ | refine qx (by rfl) ?_ | refine qw ?_ | refine qm ?_ | refine qs ?_ | refine qj ?_ | refine qi ?_); simp only [go_sem, ↓reduceIte, Nat.reduceEqDiff, Nat.reduceAdd, Nat.reduceSub, Nat.reduceMul, Nat.reduceLT, Nat.reduceLeDiff, reduceCtorEq, Int.reduceToNat]) | ((first | simp (disch := omega) only [qdr]); (try simp only [go_sem, ↓reduceIte, Nat.reduceEqDiff, Nat.reduceAdd, Nat.reduceSub, Nat.reduceMul, Nat.reduceLT, Nat.reduceLeDiff, reduceCtorEq, Int.reduceToNat])) | ((first | refine qf ?_ ?_ | refine qd ?_ ?_) <;> intro hc <;> simp only [hc, go_sem, ↓reduceIte, Nat.reduceEqDiff, Nat.reduceAdd, Nat.reduceSub, Nat.reduceMul, Nat.reduceLT, Nat.reduceLeDiff, reduceCtorEq, Int.reduceToNat] <;> (try simp only [qb, qa, decide_eq_true_eq, decide_eq_false_iff_not, Bool.and_eq_true] at hc)) | refine And.intro (by first | assumption | omega | (have := qg (by assumption); omega) | (unfold qq; omega)) ?_ | ((first | simp (disch := omega) only [qv] | simp (disch := omega) only [qbe]); (try simp only [go_sem, ↓reduceIte, Nat.reduceEqDiff, Nat.reduceAdd, Nat.reduceSub, Nat.reduceMul, Nat.reduceLT, Nat.reduceLeDiff, reduceCtorEq, Int.reduceToNat])))
      · obtain ⟨g1, g2⟩ := qrr ha (by omega) (by assumption)
        rw [newK, g1, g2]; rfl
      · exact hx ⟨by omega, by assumption⟩
      · rw [List.take_of_length_le (by omega)] at ha ⊢
        obtain ⟨g1, g2⟩ := qti ha
        rw [newK, g1, g2]; rfl
end Go.Proofs.YtmekebfgmjaenaaGreat
