/- Texts of this proof, joined. -/
import Derived.Test.YtmekebfgmjaenaaGreatAau
import Derived.Test.YtmekebfgmjaenaaGreatAav

/- the cursor: what it is, what its methods do -/
set_option maxRecDepth 4000
namespace Go.Proofs.YtmekebfgmjaenaaGreat
open Go Go.RowKit Go.V
set_option linter.unusedVariables false
set_option linter.unusedSimpArgs false

attribute [go_sem] cond_true cond_false
/-- A cursor. -/
structure K where
  l : List T
  ep : Int
  at' : Nat
  nest : Nat
  err : Int
  pos : Int
def K.ok (c : K) : Prop := c.at' ≤ c.l.length ∧ c.l.length ≤ maxLen
def curE (c : K) : Ent := .blk [.sl 4 (qc1 c.l), .int .i64 0, .int .i64 c.ep, .int .i64 0, .str [], .int .i64 c.at', .int .i64 c.nest, .int .i64 c.err, .int .i64 c.pos]
def K.bad (c : K) : Bool := !decide (c.err = 0)
theorem qgy {c : K} (h : c.bad = false) : c.err = 0 := by simpa [K.bad] using h
theorem qg9 {c : K} (h : c.bad = true) : ¬ c.err = 0 := by simpa [K.bad] using h
def qbg (c : K) : T := if c.err = 0 then if c.at' < c.l.length then c.l.getD c.at' T0 else ⟨0, c.ep, 0, []⟩ else T0
def qbc (c : K) : K := if c.err = 0 then if c.at' < c.l.length then { c with at' := c.at' + 1 } else c else c
def qh5 (t : T) (s : List UInt8) : Bool := (decide (t.kind = 4) || decide (t.kind = 5)) && decide (t.text = s)
def isK (c : K) (s : List UInt8) : Bool := decide (c.err = 0) && qh5 (qbg c) s
def qe9 (c : K) (e : Int) : K := if c.err = 0 then { c with err := if e = 0 then 1 else e, pos := (qbg c).pos } else c
def qz (c : K) (s : List UInt8) : K × Bool := if isK c s = true then (qbc c, true) else (c, false)
def q9 (c : K) (s : List UInt8) : K × Bool := if isK c s = true then (qbc c, true) else (qe9 c 5, false)
def qr (c : K) : K × Bool := if c.err = 0 then if c.nest < 200 then ({ c with nest := c.nest + 1 }, true) else (qe9 c 2, false) else (c, false)
def qci (c : K) : K := if c.err = 0 then if 0 < c.nest then { c with nest := c.nest - 1 } else c else c
def qjc (c : K) : Int × Int := if c.err = 0 then if c.at' < c.l.length then ((c.l.getD c.at' T0).pos, 5) else (c.ep, 0) else (c.pos, c.err)

theorem qbk (k : Nat) (c : K) : (curE c).bd k = true := by
  simp only [curE, Ent.bd, AV.bds, AV.bd, qhu, Bool.and_true]
theorem qme (σ : Nat → Nat) (c : K) : (curE c).ren σ = curE c := Ent.ren_same (m := 0) (fun i hi => by omega) _ (qbk 0 c)
attribute [go_sem] curE
/-- A call that leaves the first entry so. -/
def qcs (P : Program) (f : FuncId) (e e' : Ent) (args : List AV) (r : AV) : Prop := VCalls P f [e] args fun H' o => H' = [e'] ∧ o = .val r
section
variable {P : Program} {f : FuncId} {e e' : Ent} {L : List Ent} {args : List AV} {r : AV} {Q : List Ent → VO → Prop}
theorem qb4 (h : qcs P f e e' args r) (hb : e.bd 1 = true) (hb' : e'.bd 1 = true) (ha : AV.bds 1 args = true) (hr : r.bd 1 = true) (hq : r.wf → Q (e' :: L) (.val r)) : VApp P (e :: L) (.fn f [] []) args Q :=
  qhc (first := []) (caps := []) (by
    simp only [List.nil_append, List.append_nil]
    refine qi3 (H0 := [e]) (L := L) (h.mono' (Q' := fun H' o => (H' = [e'] ∧ o = .val r) ∧ r.wf) fun H' o hw ho => ⟨ho, by have := ho.2; subst this; exact hw⟩) (by simp [hb]) ha ?_
    rintro H1 o ⟨⟨rfl, rfl⟩, hw⟩
    exact ⟨rfl, by simp [hb'], hr, hq hw⟩)
theorem q2k (h : qcs P f e e args r) (hb : e.bd 1 = true) (ha : AV.bds 1 args = true) (hr : r.bd 1 = true) {Kk : Md → AV → List Ent → Prop} (hq : r.wf → Kk .here r (e :: L)) (hw : r.wf) : DApp P (e :: L) (.fn f [] []) args Kk :=
  .inl ⟨r, qb4 h hb hb ha hr fun _ => ⟨rfl, rfl⟩, hq hw⟩
/-- A call that changes the first entry, wherever else it is made. -/
theorem qbur (h : qcs P f e e' args r) (hb : e.bd 1 = true) (hb' : e'.bd 1 = true) (ha : AV.bds 1 args = true) (hr : r.bd 1 = true) (hn : e ≠ .dead) {Kk : Md → AV → List Ent → Prop} (hq : Kk (.meth 0 e e') r (e' :: L)) : DApp P (e :: L) (.fn f [] []) args Kk :=
  .inr (.inr ⟨r, 0, e, e', ⟨hn, rfl, fun H₀ h0 => by
    cases H₀ with
    | nil => exact absurd h0.symm hn
    | cons x L' =>
      cases (show x = e from h0)
      exact qb4 h hb hb' ha hr fun _ => ⟨rfl, rfl⟩⟩, hq⟩)
end

theorem qoh (c : K) : qcs Tryz.prog 36 (curE c) (curE c) [.ptr 0 0] (.bool c.bad) := by
  refine qbh c0cl 1 (by simp) (by simp) ?_
  unfold K.bad
  repeat' (first | refine qs ?_ | refine qg ?_ | refine qi ?_ | ((first | refine qu ?_ | refine qq (by rfl) ?_ | refine ql ?_ | refine qj ?_ | refine qo ?_ | refine qt ?_ | refine qn ?_ | refine qm ?_ | refine qp ?_); simp only [go_sem, ↓reduceIte, Nat.reduceEqDiff, Nat.reduceAdd, Nat.reduceSub, Nat.reduceMul, Nat.reduceLT, Nat.reduceLeDiff, reduceCtorEq, Int.reduceToNat]) | ((first | refine qh ?_ ?_ | refine qe ?_ ?_) <;> intro hc <;> simp only [hc, go_sem, ↓reduceIte, Nat.reduceEqDiff, Nat.reduceAdd, Nat.reduceSub, Nat.reduceMul, Nat.reduceLT, Nat.reduceLeDiff, reduceCtorEq, Int.reduceToNat] <;> (try simp only [qb, qa, decide_eq_true_eq, decide_eq_false_iff_not, Bool.and_eq_true] at hc)) | refine And.intro (by first | assumption | omega | (have := qk (by assumption); omega) | (unfold qy; omega)) ?_ | ((first | simp (disch := omega) only [qd] | simp (disch := omega) only [qw]); (try simp only [go_sem, ↓reduceIte, Nat.reduceEqDiff, Nat.reduceAdd, Nat.reduceSub, Nat.reduceMul, Nat.reduceLT, Nat.reduceLeDiff, reduceCtorEq, Int.reduceToNat])))
section
variable {c : K} {L : List Ent} {Q : List Ent → VO → Prop} {Kk : Md → AV → List Ent → Prop}
theorem qgx (h : Q (curE c :: L) (.val (.bool c.bad))) : VApp Tryz.prog (curE c :: L) (.fn 36 [] []) [.ptr 0 0] Q := qb4 (qoh c) (qbk _ _) (qbk _ _) rfl rfl fun _ => h
theorem q3h (h : Kk .here (.bool c.bad) (curE c :: L)) : DApp Tryz.prog (curE c :: L) (.fn 36 [] []) [.ptr 0 0] Kk := q2k (qoh c) (qbk _ _) rfl rfl (fun _ => h) trivial
end
section
variable {c : K}
theorem qe8 (h : ¬ c.err = 0) : qbg c = T0 := if_neg h
theorem qq4 (h : c.err = 0) (h2 : (c.at' : Int) < c.l.length) : qbg c = c.l.getD c.at' T0 := by rw [qbg, if_pos h, if_pos (by omega)]
theorem qto (h : c.err = 0) (h2 : ¬ (c.at' : Int) < c.l.length) : qbg c = ⟨0, c.ep, 0, []⟩ := by rw [qbg, if_pos h, if_neg (by omega)]
theorem qr6 (h : ¬ c.err = 0) : qbc c = c := if_neg h
theorem qpw (h : c.err = 0) (h2 : (c.at' : Int) < c.l.length) : qbc c = { c with at' := c.at' + 1 } := by rw [qbc, if_pos h, if_pos (by omega)]
theorem qtp (h : c.err = 0) (h2 : ¬ (c.at' : Int) < c.l.length) : qbc c = c := by rw [qbc, if_pos h, if_neg (by omega)]
theorem qfx {e : Int} (h : ¬ c.err = 0) : qe9 c e = c := if_neg h
theorem q0u (h : c.err = 0) : qe9 c 0 = { c with err := 1, pos := (qbg c).pos } := by rw [qe9, if_pos h, if_pos rfl]
theorem qy4 {e : Int} (h : c.err = 0) (he : ¬ e = 0) : qe9 c e = { c with err := e, pos := (qbg c).pos } := by rw [qe9, if_pos h, if_neg he]
end
section
variable {c : K} {x : List UInt8}
theorem q0j (h : isK c x = true) : qz c x = (qbc c, true) := if_pos h
theorem qu7 (h : isK c x = false) : qz c x = (c, false) := by rw [qz, h]; rfl
theorem q1o (h : (qz c x).2 = true) : q9 c x = ((qz c x).1, true) := by
  unfold qz q9 at *
  split at h
  · rename_i h1; rw [if_pos h1, if_pos h1]
  · cases h
theorem q1n (h : (qz c x).2 = false) : q9 c x = (qe9 (qz c x).1 5, false) := by
  unfold qz q9 at *
  split at h
  · cases h
  · rename_i h1; rw [if_neg h1, if_neg h1]
theorem qhd (h : ¬ c.err = 0) : qr c = (c, false) := if_neg h
theorem qte (h : c.err = 0) (h2 : ¬ (200 : Int) ≤ c.nest) : qr c = ({ c with nest := c.nest + 1 }, true) := by rw [qr, if_pos h, if_pos (by omega)]
theorem qnv (h : c.err = 0) (h2 : (200 : Int) ≤ c.nest) : qr c = (qe9 c 2, false) := by rw [qr, if_pos h, if_neg (by omega)]
theorem qpn (h : ¬ c.err = 0) : qci c = c := if_neg h
theorem qti (h : c.err = 0) (h2 : (0 : Int) < c.nest) : qci c = { c with nest := c.nest - 1 } := by rw [qci, if_pos h, if_pos (by omega)]
theorem qvg (h : c.err = 0) (h2 : ¬ (0 : Int) < c.nest) : qci c = c := by rw [qci, if_pos h, if_neg (by omega)]
theorem qm0 (h : ¬ c.err = 0) : qjc c = (c.pos, c.err) := if_neg h
theorem qqj (h : c.err = 0) (h2 : (c.at' : Int) < c.l.length) : qjc c = ((c.l.getD c.at' T0).pos, 5) := by rw [qjc, if_pos h, if_pos (by omega)]
theorem qn0 (h : c.err = 0) (h2 : ¬ (c.at' : Int) < c.l.length) : qjc c = (c.ep, 0) := by rw [qjc, if_pos h, if_neg (by omega)]
end
theorem qvt (c : K) : qcs Tryz.prog 15 (curE c) (curE c) [.ptr 0 0] (encT (qbg c)) := by
  refine qbh c0cm 1 (by simp) (by simp) ?_
  repeat' (first | refine qs ?_ | refine qg ?_ | refine qi ?_ | ((first | refine qu ?_ | refine qq (by rfl) ?_ | refine ql ?_ | refine qj ?_ | refine qo ?_ | refine qt ?_ | refine qn ?_ | refine qm ?_ | refine qp ?_ | refine qgx ?_); simp only [go_sem, ↓reduceIte, Nat.reduceEqDiff, Nat.reduceAdd, Nat.reduceSub, Nat.reduceMul, Nat.reduceLT, Nat.reduceLeDiff, reduceCtorEq, Int.reduceToNat]) | ((first | simp (disch := omega) only [qdu]); (try simp only [go_sem, ↓reduceIte, Nat.reduceEqDiff, Nat.reduceAdd, Nat.reduceSub, Nat.reduceMul, Nat.reduceLT, Nat.reduceLeDiff, reduceCtorEq, Int.reduceToNat])) | ((first | refine qh ?_ ?_ | refine qe ?_ ?_) <;> intro hc <;> simp only [hc, go_sem, ↓reduceIte, Nat.reduceEqDiff, Nat.reduceAdd, Nat.reduceSub, Nat.reduceMul, Nat.reduceLT, Nat.reduceLeDiff, reduceCtorEq, Int.reduceToNat] <;> (try simp only [qb, qa, decide_eq_true_eq, decide_eq_false_iff_not, Bool.and_eq_true] at hc)) | refine And.intro (by first | assumption | omega | (have := qk (by assumption); omega) | (unfold qy; omega)) ?_ | ((first | simp (disch := omega) only [qd] | simp (disch := omega) only [qw]); (try simp only [go_sem, ↓reduceIte, Nat.reduceEqDiff, Nat.reduceAdd, Nat.reduceSub, Nat.reduceMul, Nat.reduceLT, Nat.reduceLeDiff, reduceCtorEq, Int.reduceToNat])))
  · rw [qe8 (qg9 (by assumption))]; rfl
  · rw [qq4 (qgy (by assumption)) (by assumption)]
  · rw [qto (qgy (by assumption)) (by assumption)]; rfl
section
variable {c : K} {L : List Ent} {Q : List Ent → VO → Prop} {Kk : Md → AV → List Ent → Prop}
theorem qdw (h : Q (curE c :: L) (.val (encT (qbg c)))) : VApp Tryz.prog (curE c :: L) (.fn 15 [] []) [.ptr 0 0] Q := qb4 (qvt c) (qbk _ _) (qbk _ _) rfl rfl fun _ => h
end
def qdr (t : T) (ls : List (List UInt8)) : Bool := (decide (t.kind = 4) || decide (t.kind = 5)) && ls.contains t.text
theorem qy8 (t : T) (ls : List (List UInt8)) : qbs Tryz.prog 79 [encT t, .sl 1 (ls.map AV.str)] (.bool (qdr t ls)) := by
  refine qbe c0cn (by simp) (by simp only [go_sem]) rfl fun hw => ?_
  have h1 : ls.length ≤ maxLen := by have := hw.2.1.1; rwa [qvk] at this
  have loop : ∀ (Q : VE → AF → List Ent → Prop) (tm : List (Nat × AV)) (H : List Ent), qdr t ls = ls.contains t.text → H = [.blk [.int .i64 t.kind, .int .i64 t.pos, .int .i64 t.num, .str t.text]] →
      (get tm 2 = .ptr 0 0 ∧ get tm 15 = .sl 1 (ls.map AV.str) ∧ get tm 16 = .int .i64 ls.length ∧ get tm 17 = .int .i64 0) →
      Q = blq 0 (sq Tryz.prog none 26 0 (k0cn_r11.seq IC.ret) (retq 0 [(RV.t 4, Co.id)] fun H' o => o = VO.val (AV.bool (qdr t ls)))) →
      VI Tryz.prog none 26 0 k0cn_l4.loop Q ⟨tm, []⟩ H := by
    rintro Q tm H hwd rfl ⟨h2, h15, h16, h17⟩ rfl
    rw [hwd]
    refine qca (S := Nat) (fun i => i ≤ ls.length ∧ ls.contains t.text = (ls.drop i).contains t.text) (fun i => (⟨[(2, .ptr 0 0), (15, .sl 1 (ls.map AV.str)), (16, .int .i64 ls.length), (17, .int .i64 i)], []⟩, [.blk [.int .i64 t.kind, .int .i64 t.pos, .int .i64 t.num, .str t.text]])) (fun i => ls.length - i) ?_ fun i hi => ?_
    · refine qbt 0 [0] ⟨Nat.zero_le _, rfl⟩ rfl (by simp) ?_ ?_ ?_ <;> (try simp only [go_sem, ↓reduceIte, Nat.reduceEqDiff, Nat.reduceAdd, Nat.reduceSub, Nat.reduceMul, Nat.reduceLT, Nat.reduceLeDiff, reduceCtorEq, Int.reduceToNat]) <;> (try simp (disch := omega) only [qw])
      exact ⟨h2, h15, h16, h17⟩
    · obtain ⟨hi, ha⟩ := hi
      repeat' (first | refine qs ?_ | refine qg ?_ | refine qi ?_ | ((first | refine qu ?_ | refine qq (by rfl) ?_ | refine ql ?_ | refine qj ?_ | refine qo ?_ | refine qt ?_ | refine qn ?_ | refine qm ?_ | refine qp ?_); simp only [go_sem, ↓reduceIte, Nat.reduceEqDiff, Nat.reduceAdd, Nat.reduceSub, Nat.reduceMul, Nat.reduceLT, Nat.reduceLeDiff, reduceCtorEq, Int.reduceToNat]) | ((first | simp (disch := omega) only [qry]); (try simp only [go_sem, ↓reduceIte, Nat.reduceEqDiff, Nat.reduceAdd, Nat.reduceSub, Nat.reduceMul, Nat.reduceLT, Nat.reduceLeDiff, reduceCtorEq, Int.reduceToNat])) | ((first | refine qh ?_ ?_ | refine qe ?_ ?_) <;> intro hc <;> simp only [hc, go_sem, ↓reduceIte, Nat.reduceEqDiff, Nat.reduceAdd, Nat.reduceSub, Nat.reduceMul, Nat.reduceLT, Nat.reduceLeDiff, reduceCtorEq, Int.reduceToNat] <;> (try simp only [qb, qa, decide_eq_true_eq, decide_eq_false_iff_not, Bool.and_eq_true] at hc)) | refine And.intro (by first | assumption | omega | (have := qk (by assumption); omega) | (unfold qy; omega)) ?_ | ((first | simp (disch := omega) only [qd] | simp (disch := omega) only [qw]); (try simp only [go_sem, ↓reduceIte, Nat.reduceEqDiff, Nat.reduceAdd, Nat.reduceSub, Nat.reduceMul, Nat.reduceLT, Nat.reduceLeDiff, reduceCtorEq, Int.reduceToNat])))
      · rw [ha, qnx (i := i) (by omega), List.contains_cons, hc]; simp
      · refine qbt (i + 1) [0] ⟨⟨by omega, ?_⟩, by omega⟩ rfl (by simp) ?_ ?_ ?_ <;> (try simp only [go_sem, ↓reduceIte, Nat.reduceEqDiff, Nat.reduceAdd, Nat.reduceSub, Nat.reduceMul, Nat.reduceLT, Nat.reduceLeDiff, reduceCtorEq, Int.reduceToNat]) <;> (try simp (disch := omega) only [qw])
        rw [ha, qnx (i := i) (by omega), List.contains_cons, beq_eq_false_iff_ne.2 hc, Bool.false_or]
      · rw [ha, List.drop_of_length_le (by omega)]; rfl
  repeat' (first | refine qs ?_ | refine qg ?_ | refine qi ?_ | ((first | refine qu ?_ | refine qq (by rfl) ?_ | refine ql ?_ | refine qj ?_ | refine qo ?_ | refine qt ?_ | refine qn ?_ | refine qm ?_ | refine qp ?_); simp only [go_sem, ↓reduceIte, Nat.reduceEqDiff, Nat.reduceAdd, Nat.reduceSub, Nat.reduceMul, Nat.reduceLT, Nat.reduceLeDiff, reduceCtorEq, Int.reduceToNat]) | ((first | refine qh ?_ ?_ | refine qe ?_ ?_) <;> intro hc <;> simp only [hc, go_sem, ↓reduceIte, Nat.reduceEqDiff, Nat.reduceAdd, Nat.reduceSub, Nat.reduceMul, Nat.reduceLT, Nat.reduceLeDiff, reduceCtorEq, Int.reduceToNat] <;> (try simp only [qb, qa, decide_eq_true_eq, decide_eq_false_iff_not, Bool.and_eq_true] at hc)) | refine And.intro (by first | assumption | omega | (have := qk (by assumption); omega) | (unfold qy; omega)) ?_ | ((first | simp (disch := omega) only [qd] | simp (disch := omega) only [qw]); (try simp only [go_sem, ↓reduceIte, Nat.reduceEqDiff, Nat.reduceAdd, Nat.reduceSub, Nat.reduceMul, Nat.reduceLT, Nat.reduceLeDiff, reduceCtorEq, Int.reduceToNat])))
  · rw [show qdr t ls = false by simp [qdr, *]]
  · exact loop _ _ _ (by simp [qdr, *]) rfl ⟨rfl, rfl, rfl, rfl⟩ rfl
  · exact loop _ _ _ (by simp [qdr, *]) rfl ⟨rfl, rfl, rfl, rfl⟩ rfl
theorem q9n (t : T) (x : List UInt8) : qdr t [x] = qh5 t x := by
  unfold qdr qh5
  congr 1
  by_cases h : t.text = x
  · simp [h]
  · simp [h]
theorem qql (t : T) (x : List UInt8) : qbs Tryz.prog 79 [encT t, .sl 1 [.str x]] (.bool (qh5 t x)) := by
  rw [← q9n]; exact qy8 t [x]
theorem q5b (c : K) (hk : c.ok) : qcs Tryz.prog 44 (curE c) (curE (qbc c)) [.ptr 0 0] (encT (qbg c)) := by
  refine qbh c0co 1 (by simp) (by simp) ?_
  have h1 := hk.1
  have h2 := hk.2
  repeat' (first | refine qs ?_ | refine qg ?_ | refine qi ?_ | ((first | refine qu ?_ | refine qq (by rfl) ?_ | refine ql ?_ | refine qj ?_ | refine qo ?_ | refine qt ?_ | refine qn ?_ | refine qm ?_ | refine qp ?_ | refine qgx ?_ | refine q3h ?_ | refine qdw ?_); simp only [go_sem, ↓reduceIte, Nat.reduceEqDiff, Nat.reduceAdd, Nat.reduceSub, Nat.reduceMul, Nat.reduceLT, Nat.reduceLeDiff, reduceCtorEq, Int.reduceToNat]) | ((first | simp (disch := omega) only [qw]); (try simp only [go_sem, ↓reduceIte, Nat.reduceEqDiff, Nat.reduceAdd, Nat.reduceSub, Nat.reduceMul, Nat.reduceLT, Nat.reduceLeDiff, reduceCtorEq, Int.reduceToNat])) | ((first | refine qh ?_ ?_ | refine qe ?_ ?_) <;> intro hc <;> simp only [hc, go_sem, ↓reduceIte, Nat.reduceEqDiff, Nat.reduceAdd, Nat.reduceSub, Nat.reduceMul, Nat.reduceLT, Nat.reduceLeDiff, reduceCtorEq, Int.reduceToNat] <;> (try simp only [qb, qa, decide_eq_true_eq, decide_eq_false_iff_not, Bool.and_eq_true] at hc)) | refine And.intro (by first | assumption | omega | (have := qk (by assumption); omega) | (unfold qy; omega)) ?_ | ((first | simp (disch := omega) only [qd] | simp (disch := omega) only [qw]); (try simp only [go_sem, ↓reduceIte, Nat.reduceEqDiff, Nat.reduceAdd, Nat.reduceSub, Nat.reduceMul, Nat.reduceLT, Nat.reduceLeDiff, reduceCtorEq, Int.reduceToNat])))
  · rw [qpw (qgy (by assumption)) (by assumption)]
  · rw [qtp (qgy (by assumption)) (by assumption)]
  · rw [qr6 (qg9 (by assumption))]
section
variable {c : K} {L : List Ent} {Q : List Ent → VO → Prop} {Kk : Md → AV → List Ent → Prop} {x : List UInt8} {e : Int}
theorem qim (hk : c.ok) (h : Q (curE (qbc c) :: L) (.val (encT (qbg c)))) : VApp Tryz.prog (curE c :: L) (.fn 44 [] []) [.ptr 0 0] Q := qb4 (q5b c hk) (qbk _ _) (qbk _ _) rfl rfl fun _ => h
theorem qbxa (c : K) (x : List UInt8) : qcs Tryz.prog 45 (curE c) (curE c) [.ptr 0 0, .str x] (.bool (isK c x)) := by
  refine qbh c0cp 1 (by simp) (by simp) ?_
  repeat' (first | refine qs ?_ | refine qg ?_ | refine qi ?_ | ((first | refine qu ?_ | refine qq (by rfl) ?_ | refine ql ?_ | refine qj ?_ | refine qo ?_ | refine qt ?_ | refine qn ?_ | refine qm ?_ | refine qp ?_ | refine qgx ?_ | refine qdw ?_ | refine qc (qql _ _) fun _ => ?_ | refine qf  (qql _ _) ?_); simp only [go_sem, ↓reduceIte, Nat.reduceEqDiff, Nat.reduceAdd, Nat.reduceSub, Nat.reduceMul, Nat.reduceLT, Nat.reduceLeDiff, reduceCtorEq, Int.reduceToNat]) | ((first | refine qh ?_ ?_ | refine qe ?_ ?_) <;> intro hc <;> simp only [hc, go_sem, ↓reduceIte, Nat.reduceEqDiff, Nat.reduceAdd, Nat.reduceSub, Nat.reduceMul, Nat.reduceLT, Nat.reduceLeDiff, reduceCtorEq, Int.reduceToNat] <;> (try simp only [qb, qa, decide_eq_true_eq, decide_eq_false_iff_not, Bool.and_eq_true] at hc)) | refine And.intro (by first | assumption | omega | (have := qk (by assumption); omega) | (unfold qy; omega)) ?_ | ((first | simp (disch := omega) only [qd] | simp (disch := omega) only [qw]); (try simp only [go_sem, ↓reduceIte, Nat.reduceEqDiff, Nat.reduceAdd, Nat.reduceSub, Nat.reduceMul, Nat.reduceLT, Nat.reduceLeDiff, reduceCtorEq, Int.reduceToNat])))
  · rw [isK, decide_eq_true (qgy (by assumption))]; rfl
  · rw [isK, decide_eq_false (qg9 (by assumption))]; rfl
theorem a_Is (h : Q (curE c :: L) (.val (.bool (isK c x)))) : VApp Tryz.prog (curE c :: L) (.fn 45 [] []) [.ptr 0 0, .str x] Q := qb4 (qbxa c x) (qbk _ _) (qbk _ _) rfl rfl fun _ => h
theorem qwo (c : K) (e : Int) : qcs Tryz.prog 43 (curE c) (curE (qe9 c e)) [.ptr 0 0, .int .i64 e] (.bool false) := by
  refine qbh c0cq 1 (by simp) (by simp) ?_
  repeat' (first | refine qs ?_ | refine qg ?_ | refine qi ?_ | ((first | refine qu ?_ | refine qq (by rfl) ?_ | refine ql ?_ | refine qj ?_ | refine qo ?_ | refine qt ?_ | refine qn ?_ | refine qm ?_ | refine qp ?_ | refine qgx ?_ | refine qdw ?_); simp only [go_sem, ↓reduceIte, Nat.reduceEqDiff, Nat.reduceAdd, Nat.reduceSub, Nat.reduceMul, Nat.reduceLT, Nat.reduceLeDiff, reduceCtorEq, Int.reduceToNat]) | ((first | refine qh ?_ ?_ | refine qe ?_ ?_) <;> intro hc <;> simp only [hc, go_sem, ↓reduceIte, Nat.reduceEqDiff, Nat.reduceAdd, Nat.reduceSub, Nat.reduceMul, Nat.reduceLT, Nat.reduceLeDiff, reduceCtorEq, Int.reduceToNat] <;> (try simp only [qb, qa, decide_eq_true_eq, decide_eq_false_iff_not, Bool.and_eq_true] at hc)) | refine And.intro (by first | assumption | omega | (have := qk (by assumption); omega) | (unfold qy; omega)) ?_ | ((first | simp (disch := omega) only [qd] | simp (disch := omega) only [qw]); (try simp only [go_sem, ↓reduceIte, Nat.reduceEqDiff, Nat.reduceAdd, Nat.reduceSub, Nat.reduceMul, Nat.reduceLT, Nat.reduceLeDiff, reduceCtorEq, Int.reduceToNat])))
  · subst hc; rw [q0u (qgy (by assumption))]
  · rw [qy4 (qgy (by assumption)) (by assumption)]
  · rw [qfx (qg9 (by assumption))]
theorem qph (h : Q (curE (qe9 c e) :: L) (.val (.bool false))) : VApp Tryz.prog (curE c :: L) (.fn 43 [] []) [.ptr 0 0, .int .i64 e] Q := qb4 (qwo c e) (qbk _ _) (qbk _ _) rfl rfl fun _ => h
theorem qbrx {Kk : Md → AV → List Ent → Prop} (h : Kk (.meth 0 (curE c) (curE (qe9 c e))) (.bool false) (curE (qe9 c e) :: L)) : DApp Tryz.prog (curE c :: L) (.fn 43 [] []) [.ptr 0 0, .int .i64 e] Kk := qbur (qwo c e) (qbk _ _) (qbk _ _) rfl rfl (by simp [curE]) h
theorem q30 (c : K) (hk : c.ok) (x : List UInt8) : qcs Tryz.prog 21 (curE c) (curE (qz c x).1) [.ptr 0 0, .str x] (.bool (qz c x).2) := by
  refine qbh c0cr 1 (by simp) (by simp) ?_
  repeat' (first | refine qs ?_ | refine qg ?_ | refine qi ?_ | ((first | refine qu ?_ | refine qq (by rfl) ?_ | refine ql ?_ | refine qj ?_ | refine qo ?_ | refine qt ?_ | refine qn ?_ | refine qm ?_ | refine qp ?_ | refine a_Is ?_ | refine qim hk ?_); simp only [go_sem, ↓reduceIte, Nat.reduceEqDiff, Nat.reduceAdd, Nat.reduceSub, Nat.reduceMul, Nat.reduceLT, Nat.reduceLeDiff, reduceCtorEq, Int.reduceToNat]) | ((first | refine qh ?_ ?_ | refine qe ?_ ?_) <;> intro hc <;> simp only [hc, go_sem, ↓reduceIte, Nat.reduceEqDiff, Nat.reduceAdd, Nat.reduceSub, Nat.reduceMul, Nat.reduceLT, Nat.reduceLeDiff, reduceCtorEq, Int.reduceToNat] <;> (try simp only [qb, qa, decide_eq_true_eq, decide_eq_false_iff_not, Bool.and_eq_true] at hc)) | refine And.intro (by first | assumption | omega | (have := qk (by assumption); omega) | (unfold qy; omega)) ?_ | ((first | simp (disch := omega) only [qd] | simp (disch := omega) only [qw]); (try simp only [go_sem, ↓reduceIte, Nat.reduceEqDiff, Nat.reduceAdd, Nat.reduceSub, Nat.reduceMul, Nat.reduceLT, Nat.reduceLeDiff, reduceCtorEq, Int.reduceToNat])))
  · rw [qu7 (by assumption)]; exact ⟨rfl, rfl⟩
  · rw [q0j (by assumption)]; exact ⟨rfl, rfl⟩
theorem qff (hk : c.ok) (h : Q (curE (qz c x).1 :: L) (.val (.bool (qz c x).2))) : VApp Tryz.prog (curE c :: L) (.fn 21 [] []) [.ptr 0 0, .str x] Q := qb4 (q30 c hk x) (qbk _ _) (qbk _ _) rfl rfl fun _ => h
theorem q8b (c : K) (hk : c.ok) (x : List UInt8) : qcs Tryz.prog 49 (curE c) (curE (q9 c x).1) [.ptr 0 0, .str x] (.bool (q9 c x).2) := by
  refine qbh c0cs 1 (by simp) (by simp) ?_
  repeat' (first | refine qs ?_ | refine qg ?_ | refine qi ?_ | ((first | refine qu ?_ | refine qq (by rfl) ?_ | refine ql ?_ | refine qj ?_ | refine qo ?_ | refine qt ?_ | refine qn ?_ | refine qm ?_ | refine qp ?_ | refine qff hk ?_ | refine qph ?_); simp only [go_sem, ↓reduceIte, Nat.reduceEqDiff, Nat.reduceAdd, Nat.reduceSub, Nat.reduceMul, Nat.reduceLT, Nat.reduceLeDiff, reduceCtorEq, Int.reduceToNat]) | ((first | refine qh ?_ ?_ | refine qe ?_ ?_) <;> intro hc <;> simp only [hc, go_sem, ↓reduceIte, Nat.reduceEqDiff, Nat.reduceAdd, Nat.reduceSub, Nat.reduceMul, Nat.reduceLT, Nat.reduceLeDiff, reduceCtorEq, Int.reduceToNat] <;> (try simp only [qb, qa, decide_eq_true_eq, decide_eq_false_iff_not, Bool.and_eq_true] at hc)) | refine And.intro (by first | assumption | omega | (have := qk (by assumption); omega) | (unfold qy; omega)) ?_ | ((first | simp (disch := omega) only [qd] | simp (disch := omega) only [qw]); (try simp only [go_sem, ↓reduceIte, Nat.reduceEqDiff, Nat.reduceAdd, Nat.reduceSub, Nat.reduceMul, Nat.reduceLT, Nat.reduceLeDiff, reduceCtorEq, Int.reduceToNat])))
  · rw [q1o (by assumption)]; exact ⟨rfl, rfl⟩
  · rw [q1n (by assumption)]; exact ⟨rfl, rfl⟩
theorem qd2 (hk : c.ok) (h : Q (curE (q9 c x).1 :: L) (.val (.bool (q9 c x).2))) : VApp Tryz.prog (curE c :: L) (.fn 49 [] []) [.ptr 0 0, .str x] Q := qb4 (q8b c hk x) (qbk _ _) (qbk _ _) rfl rfl fun _ => h
theorem q1s (c : K) : qcs Tryz.prog 30 (curE c) (curE (qr c).1) [.ptr 0 0] (.bool (qr c).2) := by
  refine qbh c0ct 1 (by simp) (by simp) ?_
  repeat' (first | refine qs ?_ | refine qg ?_ | refine qi ?_ | ((first | refine qu ?_ | refine qq (by rfl) ?_ | refine ql ?_ | refine qj ?_ | refine qo ?_ | refine qt ?_ | refine qn ?_ | refine qm ?_ | refine qp ?_ | refine qgx ?_ | refine qph ?_); simp only [go_sem, ↓reduceIte, Nat.reduceEqDiff, Nat.reduceAdd, Nat.reduceSub, Nat.reduceMul, Nat.reduceLT, Nat.reduceLeDiff, reduceCtorEq, Int.reduceToNat]) | ((first | refine qh ?_ ?_ | refine qe ?_ ?_) <;> intro hc <;> simp only [hc, go_sem, ↓reduceIte, Nat.reduceEqDiff, Nat.reduceAdd, Nat.reduceSub, Nat.reduceMul, Nat.reduceLT, Nat.reduceLeDiff, reduceCtorEq, Int.reduceToNat] <;> (try simp only [qb, qa, decide_eq_true_eq, decide_eq_false_iff_not, Bool.and_eq_true] at hc)) | refine And.intro (by first | assumption | omega | (have := qk (by assumption); omega) | (unfold qy; omega)) ?_ | ((first | simp (disch := omega) only [qd] | simp (disch := omega) only [qw]); (try simp only [go_sem, ↓reduceIte, Nat.reduceEqDiff, Nat.reduceAdd, Nat.reduceSub, Nat.reduceMul, Nat.reduceLT, Nat.reduceLeDiff, reduceCtorEq, Int.reduceToNat])))
  · rw [qhd (qg9 (by assumption)), qfx (qg9 (by assumption))]; exact ⟨rfl, rfl⟩
  · rw [qnv (qgy (by assumption)) (by assumption)]; exact ⟨rfl, rfl⟩
  · rw [qte (qgy (by assumption)) (by assumption), qe6 (by omega) (by unfold maxLen; omega)]; exact ⟨rfl, rfl⟩
theorem qha (h : Q (curE (qr c).1 :: L) (.val (.bool (qr c).2))) : VApp Tryz.prog (curE c :: L) (.fn 30 [] []) [.ptr 0 0] Q := qb4 (q1s c) (qbk _ _) (qbk _ _) rfl rfl fun _ => h
theorem q28 (c : K) (hn : c.nest ≤ 200) : qcs Tryz.prog 32 (curE c) (curE (qci c)) [.ptr 0 0] (.tup []) := by
  refine qbh c0cu 1 (by simp) (by simp) ?_
  repeat' (first | refine qs ?_ | refine qg ?_ | refine qi ?_ | ((first | refine qu ?_ | refine qq (by rfl) ?_ | refine ql ?_ | refine qj ?_ | refine qo ?_ | refine qt ?_ | refine qn ?_ | refine qm ?_ | refine qp ?_ | refine qgx ?_); simp only [go_sem, ↓reduceIte, Nat.reduceEqDiff, Nat.reduceAdd, Nat.reduceSub, Nat.reduceMul, Nat.reduceLT, Nat.reduceLeDiff, reduceCtorEq, Int.reduceToNat]) | ((first | refine qh ?_ ?_ | refine qe ?_ ?_) <;> intro hc <;> simp only [hc, go_sem, ↓reduceIte, Nat.reduceEqDiff, Nat.reduceAdd, Nat.reduceSub, Nat.reduceMul, Nat.reduceLT, Nat.reduceLeDiff, reduceCtorEq, Int.reduceToNat] <;> (try simp only [qb, qa, decide_eq_true_eq, decide_eq_false_iff_not, Bool.and_eq_true] at hc)) | refine And.intro (by first | assumption | omega | (have := qk (by assumption); omega) | (unfold qy; omega)) ?_ | ((first | simp (disch := omega) only [qd] | simp (disch := omega) only [qw]); (try simp only [go_sem, ↓reduceIte, Nat.reduceEqDiff, Nat.reduceAdd, Nat.reduceSub, Nat.reduceMul, Nat.reduceLT, Nat.reduceLeDiff, reduceCtorEq, Int.reduceToNat])))
  · rw [qti (qgy (by assumption)) (by assumption), qe6 (by omega) (by unfold maxLen; omega)]
    simp only [List.cons.injEq, Ent.blk.injEq, AV.int.injEq, true_and, and_true]; omega
  · rw [qvg (qgy (by assumption)) (by assumption)]
  · rw [qpn (qg9 (by assumption))]
theorem qfl (hn : c.nest ≤ 200) (h : Q (curE (qci c) :: L) (.val (.tup []))) : VApp Tryz.prog (curE c :: L) (.fn 32 [] []) [.ptr 0 0] Q := qb4 (q28 c hn) (qbk _ _) (qbk _ _) rfl rfl fun _ => h
theorem qwj (c : K) (hk : c.ok) : qcs Tryz.prog 12 (curE c) (curE c) [.ptr 0 0] (.tup [.int .i64 (qjc c).1, .int .i64 (qjc c).2]) := by
  refine qbh c0cv 1 (by simp) (by simp) ?_
  repeat' (first | refine qs ?_ | refine qg ?_ | refine qi ?_ | ((first | refine qu ?_ | refine qq (by rfl) ?_ | refine ql ?_ | refine qj ?_ | refine qo ?_ | refine qt ?_ | refine qn ?_ | refine qm ?_ | refine qp ?_); simp only [go_sem, ↓reduceIte, Nat.reduceEqDiff, Nat.reduceAdd, Nat.reduceSub, Nat.reduceMul, Nat.reduceLT, Nat.reduceLeDiff, reduceCtorEq, Int.reduceToNat]) | ((first | simp (disch := omega) only [qdu]); (try simp only [go_sem, ↓reduceIte, Nat.reduceEqDiff, Nat.reduceAdd, Nat.reduceSub, Nat.reduceMul, Nat.reduceLT, Nat.reduceLeDiff, reduceCtorEq, Int.reduceToNat])) | ((first | refine qh ?_ ?_ | refine qe ?_ ?_) <;> intro hc <;> simp only [hc, go_sem, ↓reduceIte, Nat.reduceEqDiff, Nat.reduceAdd, Nat.reduceSub, Nat.reduceMul, Nat.reduceLT, Nat.reduceLeDiff, reduceCtorEq, Int.reduceToNat] <;> (try simp only [qb, qa, decide_eq_true_eq, decide_eq_false_iff_not, Bool.and_eq_true] at hc)) | refine And.intro (by first | assumption | omega | (have := qk (by assumption); omega) | (unfold qy; omega)) ?_ | ((first | simp (disch := omega) only [qd] | simp (disch := omega) only [qw]); (try simp only [go_sem, ↓reduceIte, Nat.reduceEqDiff, Nat.reduceAdd, Nat.reduceSub, Nat.reduceMul, Nat.reduceLT, Nat.reduceLeDiff, reduceCtorEq, Int.reduceToNat])))
  · rw [qm0 (by assumption)]
  · rw [qqj (by assumption) (by assumption)]
  · rw [qn0 (by assumption) (by assumption)]
theorem qse (hk : c.ok) (h : Q (curE c :: L) (.val (.tup [.int .i64 (qjc c).1, .int .i64 (qjc c).2]))) : VApp Tryz.prog (curE c :: L) (.fn 12 [] []) [.ptr 0 0] Q := qb4 (qwj c hk) (qbk _ _) (qbk _ _) rfl rfl fun _ => h
end
end Go.Proofs.YtmekebfgmjaenaaGreat

/- the cursor: the reference -/
set_option maxRecDepth 4000
namespace Go.Proofs.YtmekebfgmjaenaaGreat
open Go Go.RowKit Go.V
set_option linter.unusedVariables false
set_option linter.unusedSimpArgs false

theorem qxg {a : List T} {r : List AV} (h : AV.wfs (.sl 4 (qc1 a) :: r)) : a.length ≤ maxLen := by
  have := h.1.1; rwa [qfb] at this
def refC (c : K) : AV := .agg [.sl 4 (qc1 (c.l.drop c.at')), .int .i64 0, .int .i64 c.ep, .int .i64 0, .str [], .int .i64 c.nest, .int .i64 c.err, .int .i64 c.pos]
attribute [go_sem] refC
theorem q7i {l : List T} {i : Nat} : (l.drop i).length = l.length - i := List.length_drop
theorem q9q {l : List T} {i : Nat} (h : i < l.length) : (l.drop i).getD 0 T0 = l.getD i T0 := by rw [q6e h]; rfl
section
variable {c : K}
theorem qbzi (h : ¬ ((c.l.drop c.at').length : Int) = 0) : (c.at' : Int) < c.l.length := by rw [q7i] at h; omega
theorem qbsj (h : ((c.l.drop c.at').length : Int) = 0) : ¬ (c.at' : Int) < c.l.length := by rw [q7i] at h; omega
theorem qz7 (h : (0 : Int) < (c.l.drop c.at').length) : (c.at' : Int) < c.l.length := by rw [q7i] at h; omega
theorem q1a (h : ¬ (0 : Int) < (c.l.drop c.at').length) : ¬ (c.at' : Int) < c.l.length := by rw [q7i] at h; omega
end
theorem qw1 {c : K} {x : List UInt8} (h : (qz c x).2 = false) : (qz c x).1 = c := by
  unfold qz at *
  split at h
  · cases h
  · rename_i h1; rw [if_neg h1]
theorem q8 (c : K) : qbs Tryz.prog 16 [refC c] (encT (qbg c)) := by
  refine qbe c0bz (by simp) (by simp only [go_sem]) rfl fun hw => ?_
  repeat' (first | refine qs ?_ | refine qg ?_ | refine qi ?_ | ((first | refine qu ?_ | refine qq (by rfl) ?_ | refine ql ?_ | refine qj ?_ | refine qo ?_ | refine qt ?_ | refine qn ?_ | refine qm ?_ | refine qp ?_); simp only [go_sem, ↓reduceIte, Nat.reduceEqDiff, Nat.reduceAdd, Nat.reduceSub, Nat.reduceMul, Nat.reduceLT, Nat.reduceLeDiff, reduceCtorEq, Int.reduceToNat]) | ((first | simp (disch := omega) only [qdu]); (try simp only [go_sem, ↓reduceIte, Nat.reduceEqDiff, Nat.reduceAdd, Nat.reduceSub, Nat.reduceMul, Nat.reduceLT, Nat.reduceLeDiff, reduceCtorEq, Int.reduceToNat])) | ((first | refine qh ?_ ?_ | refine qe ?_ ?_) <;> intro hc <;> simp only [hc, go_sem, ↓reduceIte, Nat.reduceEqDiff, Nat.reduceAdd, Nat.reduceSub, Nat.reduceMul, Nat.reduceLT, Nat.reduceLeDiff, reduceCtorEq, Int.reduceToNat] <;> (try simp only [qb, qa, decide_eq_true_eq, decide_eq_false_iff_not, Bool.and_eq_true] at hc)) | refine And.intro (by first | assumption | omega | (have := qk (by assumption); omega) | (unfold qy; omega)) ?_ | ((first | simp (disch := omega) only [qd] | simp (disch := omega) only [qw]); (try simp only [go_sem, ↓reduceIte, Nat.reduceEqDiff, Nat.reduceAdd, Nat.reduceSub, Nat.reduceMul, Nat.reduceLT, Nat.reduceLeDiff, reduceCtorEq, Int.reduceToNat])))
  · rw [qe8 (by assumption)]; rfl
  · rw [qto (by assumption) (qbsj (by assumption))]; rfl
  · rw [qq4 (by assumption) (qbzi (by assumption)), q9q (by have := qbzi (c := c) (by assumption); omega)]
theorem qcf (c : K) : qbs Tryz.prog 51 [refC c] (.tup [refC (qbc c), encT (qbg c)]) := by
  refine qbe c0ca (by simp) (by simp only [go_sem]) (by simp only [go_sem]) fun hw => ?_
  repeat' (first | refine qs ?_ | refine qg ?_ | refine qi ?_ | ((first | refine qu ?_ | refine qq (by rfl) ?_ | refine ql ?_ | refine qj ?_ | refine qo ?_ | refine qt ?_ | refine qn ?_ | refine qm ?_ | refine qp ?_ | refine qc (q8 _) fun _ => ?_ | refine qf  (q8 _) ?_); simp only [go_sem, ↓reduceIte, Nat.reduceEqDiff, Nat.reduceAdd, Nat.reduceSub, Nat.reduceMul, Nat.reduceLT, Nat.reduceLeDiff, reduceCtorEq, Int.reduceToNat]) | ((first | refine qh ?_ ?_ | refine qe ?_ ?_) <;> intro hc <;> simp only [hc, go_sem, ↓reduceIte, Nat.reduceEqDiff, Nat.reduceAdd, Nat.reduceSub, Nat.reduceMul, Nat.reduceLT, Nat.reduceLeDiff, reduceCtorEq, Int.reduceToNat] <;> (try simp only [qb, qa, decide_eq_true_eq, decide_eq_false_iff_not, Bool.and_eq_true] at hc)) | refine And.intro (by first | assumption | omega | (have := qk (by assumption); omega) | (unfold qy; omega)) ?_ | ((first | simp (disch := omega) only [qd] | simp (disch := omega) only [qw]); (try simp only [go_sem, ↓reduceIte, Nat.reduceEqDiff, Nat.reduceAdd, Nat.reduceSub, Nat.reduceMul, Nat.reduceLT, Nat.reduceLeDiff, reduceCtorEq, Int.reduceToNat])))
  · rw [qpw (by assumption) (qz7 (by assumption)), List.drop_drop]
  · rw [qtp (by assumption) (q1a (by assumption))]
  · rw [qr6 (by assumption)]
theorem qi7 (t : T) (x : List UInt8) : qbs Tryz.prog 84 [encT t, .str x] (.bool (qh5 t x)) := by
  refine qbe c0cb (by simp) (by simp only [go_sem]) rfl fun hw => ?_
  repeat' (first | refine qs ?_ | refine qg ?_ | refine qi ?_ | ((first | refine qu ?_ | refine qq (by rfl) ?_ | refine ql ?_ | refine qj ?_ | refine qo ?_ | refine qt ?_ | refine qn ?_ | refine qm ?_ | refine qp ?_); simp only [go_sem, ↓reduceIte, Nat.reduceEqDiff, Nat.reduceAdd, Nat.reduceSub, Nat.reduceMul, Nat.reduceLT, Nat.reduceLeDiff, reduceCtorEq, Int.reduceToNat]) | ((first | refine qh ?_ ?_ | refine qe ?_ ?_) <;> intro hc <;> simp only [hc, go_sem, ↓reduceIte, Nat.reduceEqDiff, Nat.reduceAdd, Nat.reduceSub, Nat.reduceMul, Nat.reduceLT, Nat.reduceLeDiff, reduceCtorEq, Int.reduceToNat] <;> (try simp only [qb, qa, decide_eq_true_eq, decide_eq_false_iff_not, Bool.and_eq_true] at hc)) | refine And.intro (by first | assumption | omega | (have := qk (by assumption); omega) | (unfold qy; omega)) ?_ | ((first | simp (disch := omega) only [qd] | simp (disch := omega) only [qw]); (try simp only [go_sem, ↓reduceIte, Nat.reduceEqDiff, Nat.reduceAdd, Nat.reduceSub, Nat.reduceMul, Nat.reduceLT, Nat.reduceLeDiff, reduceCtorEq, Int.reduceToNat])))
  all_goals simp_all [qh5]
theorem qc3 (c : K) (x : List UInt8) : qbs Tryz.prog 52 [refC c, .str x] (.bool (isK c x)) := by
  refine qbe c0cc (by simp) (by simp only [go_sem]) rfl fun hw => ?_
  repeat' (first | refine qs ?_ | refine qg ?_ | refine qi ?_ | ((first | refine qu ?_ | refine qq (by rfl) ?_ | refine ql ?_ | refine qj ?_ | refine qo ?_ | refine qt ?_ | refine qn ?_ | refine qm ?_ | refine qp ?_ | refine qc (q8 c) fun _ => ?_ | refine qc (qi7 _ _) fun _ => ?_ | refine qf  (q8 c) ?_ | refine qf  (qi7 _ _) ?_); simp only [go_sem, ↓reduceIte, Nat.reduceEqDiff, Nat.reduceAdd, Nat.reduceSub, Nat.reduceMul, Nat.reduceLT, Nat.reduceLeDiff, reduceCtorEq, Int.reduceToNat]) | ((first | refine qh ?_ ?_ | refine qe ?_ ?_) <;> intro hc <;> simp only [hc, go_sem, ↓reduceIte, Nat.reduceEqDiff, Nat.reduceAdd, Nat.reduceSub, Nat.reduceMul, Nat.reduceLT, Nat.reduceLeDiff, reduceCtorEq, Int.reduceToNat] <;> (try simp only [qb, qa, decide_eq_true_eq, decide_eq_false_iff_not, Bool.and_eq_true] at hc)) | refine And.intro (by first | assumption | omega | (have := qk (by assumption); omega) | (unfold qy; omega)) ?_ | ((first | simp (disch := omega) only [qd] | simp (disch := omega) only [qw]); (try simp only [go_sem, ↓reduceIte, Nat.reduceEqDiff, Nat.reduceAdd, Nat.reduceSub, Nat.reduceMul, Nat.reduceLT, Nat.reduceLeDiff, reduceCtorEq, Int.reduceToNat])))
  all_goals simp_all [isK]
theorem qbl (c : K) (x : List UInt8) : qbs Tryz.prog 25 [refC c, .str x] (.tup [refC (qz c x).1, .bool (qz c x).2]) := by
  refine qbe c0cd (by simp) (by simp only [go_sem]) (by simp only [go_sem]) fun hw => ?_
  repeat' (first | refine qs ?_ | refine qg ?_ | refine qi ?_ | ((first | refine qu ?_ | refine qq (by rfl) ?_ | refine ql ?_ | refine qj ?_ | refine qo ?_ | refine qt ?_ | refine qn ?_ | refine qm ?_ | refine qp ?_ | refine qc (qc3 _ _) fun _ => ?_ | refine qc (qcf _) fun _ => ?_ | refine qf  (qc3 _ _) ?_ | refine qf  (qcf _) ?_); simp only [go_sem, ↓reduceIte, Nat.reduceEqDiff, Nat.reduceAdd, Nat.reduceSub, Nat.reduceMul, Nat.reduceLT, Nat.reduceLeDiff, reduceCtorEq, Int.reduceToNat]) | ((first | refine qh ?_ ?_ | refine qe ?_ ?_) <;> intro hc <;> simp only [hc, go_sem, ↓reduceIte, Nat.reduceEqDiff, Nat.reduceAdd, Nat.reduceSub, Nat.reduceMul, Nat.reduceLT, Nat.reduceLeDiff, reduceCtorEq, Int.reduceToNat] <;> (try simp only [qb, qa, decide_eq_true_eq, decide_eq_false_iff_not, Bool.and_eq_true] at hc)) | refine And.intro (by first | assumption | omega | (have := qk (by assumption); omega) | (unfold qy; omega)) ?_ | ((first | simp (disch := omega) only [qd] | simp (disch := omega) only [qw]); (try simp only [go_sem, ↓reduceIte, Nat.reduceEqDiff, Nat.reduceAdd, Nat.reduceSub, Nat.reduceMul, Nat.reduceLT, Nat.reduceLeDiff, reduceCtorEq, Int.reduceToNat])))
  · rw [qu7 (by assumption)]
  · rw [q0j (by assumption)]
theorem qc2 (c : K) (e : Int) : qbs Tryz.prog 50 [refC c, .int .i64 e] (refC (qe9 c e)) := by
  refine qbe c0ce (by simp) (by simp only [go_sem]) (by simp only [go_sem]) fun hw => ?_
  repeat' (first | refine qs ?_ | refine qg ?_ | refine qi ?_ | ((first | refine qu ?_ | refine qq (by rfl) ?_ | refine ql ?_ | refine qj ?_ | refine qo ?_ | refine qt ?_ | refine qn ?_ | refine qm ?_ | refine qp ?_ | refine qc (q8 c) fun _ => ?_ | refine qf  (q8 c) ?_); simp only [go_sem, ↓reduceIte, Nat.reduceEqDiff, Nat.reduceAdd, Nat.reduceSub, Nat.reduceMul, Nat.reduceLT, Nat.reduceLeDiff, reduceCtorEq, Int.reduceToNat]) | ((first | refine qh ?_ ?_ | refine qe ?_ ?_) <;> intro hc <;> simp only [hc, go_sem, ↓reduceIte, Nat.reduceEqDiff, Nat.reduceAdd, Nat.reduceSub, Nat.reduceMul, Nat.reduceLT, Nat.reduceLeDiff, reduceCtorEq, Int.reduceToNat] <;> (try simp only [qb, qa, decide_eq_true_eq, decide_eq_false_iff_not, Bool.and_eq_true] at hc)) | refine And.intro (by first | assumption | omega | (have := qk (by assumption); omega) | (unfold qy; omega)) ?_ | ((first | simp (disch := omega) only [qd] | simp (disch := omega) only [qw]); (try simp only [go_sem, ↓reduceIte, Nat.reduceEqDiff, Nat.reduceAdd, Nat.reduceSub, Nat.reduceMul, Nat.reduceLT, Nat.reduceLeDiff, reduceCtorEq, Int.reduceToNat])))
  · rw [qfx (by assumption)]
  · subst hc; rw [q0u (by assumption)]
  · rw [qy4 (by assumption) (by assumption)]
theorem qbi (c : K) (x : List UInt8) : qbs Tryz.prog 28 [refC c, .str x] (.tup [refC (q9 c x).1, .bool (q9 c x).2]) := by
  refine qbe c0cf (by simp) (by simp only [go_sem]) (by simp only [go_sem]) fun hw => ?_
  repeat' (first | refine qs ?_ | refine qg ?_ | refine qi ?_ | ((first | refine qu ?_ | refine qq (by rfl) ?_ | refine ql ?_ | refine qj ?_ | refine qo ?_ | refine qt ?_ | refine qn ?_ | refine qm ?_ | refine qp ?_ | refine qc (qbl _ _) fun _ => ?_ | refine qc (qc2 _ _) fun _ => ?_ | refine qf  (qbl _ _) ?_ | refine qf  (qc2 _ _) ?_); simp only [go_sem, ↓reduceIte, Nat.reduceEqDiff, Nat.reduceAdd, Nat.reduceSub, Nat.reduceMul, Nat.reduceLT, Nat.reduceLeDiff, reduceCtorEq, Int.reduceToNat]) | ((first | refine qh ?_ ?_ | refine qe ?_ ?_) <;> intro hc <;> simp only [hc, go_sem, ↓reduceIte, Nat.reduceEqDiff, Nat.reduceAdd, Nat.reduceSub, Nat.reduceMul, Nat.reduceLT, Nat.reduceLeDiff, reduceCtorEq, Int.reduceToNat] <;> (try simp only [qb, qa, decide_eq_true_eq, decide_eq_false_iff_not, Bool.and_eq_true] at hc)) | refine And.intro (by first | assumption | omega | (have := qk (by assumption); omega) | (unfold qy; omega)) ?_ | ((first | simp (disch := omega) only [qd] | simp (disch := omega) only [qw]); (try simp only [go_sem, ↓reduceIte, Nat.reduceEqDiff, Nat.reduceAdd, Nat.reduceSub, Nat.reduceMul, Nat.reduceLT, Nat.reduceLeDiff, reduceCtorEq, Int.reduceToNat])))
  · rw [q1n (by assumption), qw1 (by assumption)]
  · rw [q1o (by assumption)]
theorem qcq (c : K) : qbs Tryz.prog 33 [refC c] (.tup [refC (qr c).1, .bool (qr c).2]) := by
  refine qbe c0cg (by simp) (by simp only [go_sem]) (by simp only [go_sem]) fun hw => ?_
  repeat' (first | refine qs ?_ | refine qg ?_ | refine qi ?_ | ((first | refine qu ?_ | refine qq (by rfl) ?_ | refine ql ?_ | refine qj ?_ | refine qo ?_ | refine qt ?_ | refine qn ?_ | refine qm ?_ | refine qp ?_ | refine qc (qc2 c _) fun _ => ?_ | refine qf  (qc2 c _) ?_); simp only [go_sem, ↓reduceIte, Nat.reduceEqDiff, Nat.reduceAdd, Nat.reduceSub, Nat.reduceMul, Nat.reduceLT, Nat.reduceLeDiff, reduceCtorEq, Int.reduceToNat]) | ((first | refine qh ?_ ?_ | refine qe ?_ ?_) <;> intro hc <;> simp only [hc, go_sem, ↓reduceIte, Nat.reduceEqDiff, Nat.reduceAdd, Nat.reduceSub, Nat.reduceMul, Nat.reduceLT, Nat.reduceLeDiff, reduceCtorEq, Int.reduceToNat] <;> (try simp only [qb, qa, decide_eq_true_eq, decide_eq_false_iff_not, Bool.and_eq_true] at hc)) | refine And.intro (by first | assumption | omega | (have := qk (by assumption); omega) | (unfold qy; omega)) ?_ | ((first | simp (disch := omega) only [qd] | simp (disch := omega) only [qw]); (try simp only [go_sem, ↓reduceIte, Nat.reduceEqDiff, Nat.reduceAdd, Nat.reduceSub, Nat.reduceMul, Nat.reduceLT, Nat.reduceLeDiff, reduceCtorEq, Int.reduceToNat])))
  · rw [qhd (by assumption)]
  · rw [qnv (by assumption) (by assumption)]
  · rw [qte (by assumption) (by assumption), qe6 (by omega) (by unfold maxLen; omega)]; rfl
theorem qb2 (c : K) (hn : c.nest ≤ 200) : qbs Tryz.prog 35 [refC c] (refC (qci c)) := by
  refine qbe c0ch (by simp) (by simp only [go_sem]) (by simp only [go_sem]) fun hw => ?_
  repeat' (first | refine qs ?_ | refine qg ?_ | refine qi ?_ | ((first | refine qu ?_ | refine qq (by rfl) ?_ | refine ql ?_ | refine qj ?_ | refine qo ?_ | refine qt ?_ | refine qn ?_ | refine qm ?_ | refine qp ?_); simp only [go_sem, ↓reduceIte, Nat.reduceEqDiff, Nat.reduceAdd, Nat.reduceSub, Nat.reduceMul, Nat.reduceLT, Nat.reduceLeDiff, reduceCtorEq, Int.reduceToNat]) | ((first | refine qh ?_ ?_ | refine qe ?_ ?_) <;> intro hc <;> simp only [hc, go_sem, ↓reduceIte, Nat.reduceEqDiff, Nat.reduceAdd, Nat.reduceSub, Nat.reduceMul, Nat.reduceLT, Nat.reduceLeDiff, reduceCtorEq, Int.reduceToNat] <;> (try simp only [qb, qa, decide_eq_true_eq, decide_eq_false_iff_not, Bool.and_eq_true] at hc)) | refine And.intro (by first | assumption | omega | (have := qk (by assumption); omega) | (unfold qy; omega)) ?_ | ((first | simp (disch := omega) only [qd] | simp (disch := omega) only [qw]); (try simp only [go_sem, ↓reduceIte, Nat.reduceEqDiff, Nat.reduceAdd, Nat.reduceSub, Nat.reduceMul, Nat.reduceLT, Nat.reduceLeDiff, reduceCtorEq, Int.reduceToNat])))
  · rw [qti (by assumption) (by assumption), qe6 (by omega) (by unfold maxLen; omega)]
    simp only [VO.val.injEq, AV.agg.injEq, List.cons.injEq, AV.int.injEq, true_and, and_true]; omega
  · rw [qvg (by assumption) (by assumption)]
  · rw [qpn (by assumption)]
theorem qey (c : K) : qbs Tryz.prog 13 [refC c] (.tup [.int .i64 (qjc c).1, .int .i64 (qjc c).2]) := by
  refine qbe c0ci (by simp) (by simp only [go_sem]) rfl fun hw => ?_
  repeat' (first | refine qs ?_ | refine qg ?_ | refine qi ?_ | ((first | refine qu ?_ | refine qq (by rfl) ?_ | refine ql ?_ | refine qj ?_ | refine qo ?_ | refine qt ?_ | refine qn ?_ | refine qm ?_ | refine qp ?_); simp only [go_sem, ↓reduceIte, Nat.reduceEqDiff, Nat.reduceAdd, Nat.reduceSub, Nat.reduceMul, Nat.reduceLT, Nat.reduceLeDiff, reduceCtorEq, Int.reduceToNat]) | ((first | simp (disch := omega) only [qdu]); (try simp only [go_sem, ↓reduceIte, Nat.reduceEqDiff, Nat.reduceAdd, Nat.reduceSub, Nat.reduceMul, Nat.reduceLT, Nat.reduceLeDiff, reduceCtorEq, Int.reduceToNat])) | ((first | refine qh ?_ ?_ | refine qe ?_ ?_) <;> intro hc <;> simp only [hc, go_sem, ↓reduceIte, Nat.reduceEqDiff, Nat.reduceAdd, Nat.reduceSub, Nat.reduceMul, Nat.reduceLT, Nat.reduceLeDiff, reduceCtorEq, Int.reduceToNat] <;> (try simp only [qb, qa, decide_eq_true_eq, decide_eq_false_iff_not, Bool.and_eq_true] at hc)) | refine And.intro (by first | assumption | omega | (have := qk (by assumption); omega) | (unfold qy; omega)) ?_ | ((first | simp (disch := omega) only [qd] | simp (disch := omega) only [qw]); (try simp only [go_sem, ↓reduceIte, Nat.reduceEqDiff, Nat.reduceAdd, Nat.reduceSub, Nat.reduceMul, Nat.reduceLT, Nat.reduceLeDiff, reduceCtorEq, Int.reduceToNat])))
  · rw [qm0 (by assumption)]
  · rw [qqj (by assumption) (qz7 (by assumption)), q9q (by have := qz7 (c := c) (by assumption); omega)]
  · rw [qn0 (by assumption) (q1a (by assumption))]
/-- The words ahead of the first end. -/
def qhj : List T → List T
  | [] => []
  | t :: r => if t.kind = 0 then [] else t :: qhj r
def endT : List T → Int
  | [] => 0
  | t :: r => if t.kind = 0 then t.pos else endT r
def newK (l : List T) : K := ⟨qhj l, endT l, 0, 0, 0, 0⟩
theorem qku : ∀ l : List T, (qhj l).length ≤ l.length
  | [] => Nat.le_refl _
  | t :: r => by
    rw [qhj]
    split
    · exact Nat.zero_le _
    · have := qku r; simp only [List.length_cons]; omega
theorem qsi {l : List T} {i : Nat} (h1 : ∀ t ∈ l.take i, t.kind ≠ 0) (h : i < l.length) (h2 : (l.getD i T0).kind = 0) : qhj l = l.take i ∧ endT l = (l.getD i T0).pos := by
  induction l generalizing i with
  | nil => simp at h
  | cons t r ih =>
    cases i with
    | zero => simp only [List.getD_cons_zero] at h2 ⊢; rw [qhj, endT, if_pos h2, if_pos h2]; exact ⟨rfl, rfl⟩
    | succ i =>
      have ht := h1 t (by simp)
      obtain ⟨g1, g2⟩ := ih (fun u hu => h1 u (List.mem_cons_of_mem t hu)) (by simpa using h) (by simpa using h2)
      rw [qhj, endT, if_neg ht, if_neg ht, g1, g2]
      exact ⟨rfl, rfl⟩
theorem qr0 {l : List T} (h1 : ∀ t ∈ l, t.kind ≠ 0) : qhj l = l ∧ endT l = 0 := by
  induction l with
  | nil => exact ⟨rfl, rfl⟩
  | cons t r ih =>
    obtain ⟨g1, g2⟩ := ih fun u hu => h1 u (by simp [hu])
    rw [qhj, endT, if_neg (h1 t (by simp)), if_neg (h1 t (by simp)), g1, g2]
    exact ⟨rfl, rfl⟩
theorem qhx {a : List T} {i : Nat} (h : i < a.length) {p : T → Prop} (h1 : ∀ t ∈ a.take i, p t) (h2 : p (a.getD i T0)) : ∀ t ∈ a.take (i + 1), p t := by
  intro t ht
  rw [List.take_add_one, List.getElem?_eq_getElem h] at ht
  rcases List.mem_append.1 ht with ht | ht
  · exact h1 t ht
  · simp only [Option.toList_some, List.mem_singleton] at ht
    subst ht
    rwa [List.getD_eq_getElem?_getD, List.getElem?_eq_getElem h] at h2
theorem qsl (l : List T) : qbs Tryz.prog 7 [.sl 4 (qc1 l)] (refC (newK l)) := by
  refine qbe c0cj (by simp) (by simp only [go_sem]) (by simp only [go_sem]) fun hw => ?_
  have h1 := qxg hw
  repeat' (first | refine qs ?_ | refine qg ?_ | refine qi ?_ | ((first | refine qu ?_ | refine qq (by rfl) ?_ | refine ql ?_ | refine qj ?_ | refine qo ?_ | refine qt ?_ | refine qn ?_ | refine qm ?_ | refine qp ?_); simp only [go_sem, ↓reduceIte, Nat.reduceEqDiff, Nat.reduceAdd, Nat.reduceSub, Nat.reduceMul, Nat.reduceLT, Nat.reduceLeDiff, reduceCtorEq, Int.reduceToNat]) | ((first | refine qh ?_ ?_ | refine qe ?_ ?_) <;> intro hc <;> simp only [hc, go_sem, ↓reduceIte, Nat.reduceEqDiff, Nat.reduceAdd, Nat.reduceSub, Nat.reduceMul, Nat.reduceLT, Nat.reduceLeDiff, reduceCtorEq, Int.reduceToNat] <;> (try simp only [qb, qa, decide_eq_true_eq, decide_eq_false_iff_not, Bool.and_eq_true] at hc)) | refine And.intro (by first | assumption | omega | (have := qk (by assumption); omega) | (unfold qy; omega)) ?_ | ((first | simp (disch := omega) only [qd] | simp (disch := omega) only [qw]); (try simp only [go_sem, ↓reduceIte, Nat.reduceEqDiff, Nat.reduceAdd, Nat.reduceSub, Nat.reduceMul, Nat.reduceLT, Nat.reduceLeDiff, reduceCtorEq, Int.reduceToNat])))
  refine qca (S := Nat) (fun i => i ≤ l.length ∧ ∀ t ∈ l.take i, t.kind ≠ 0) (fun i => (⟨[(0, .sl 4 (qc1 l)), (2, .ptr 0 0), (3, .int .i64 i)], []⟩, [.blk [.nils, .int .i64 0, .int .i64 0, .int .i64 0, .str [], .int .i64 0, .int .i64 0, .int .i64 0]])) (fun i => l.length - i) ?_ fun i hi => ?_
  · refine qbt 0 [0] ⟨Nat.zero_le _, by simp⟩ rfl (by simp) ?_ ?_ ?_ <;> (try simp only [go_sem, ↓reduceIte, Nat.reduceEqDiff, Nat.reduceAdd, Nat.reduceSub, Nat.reduceMul, Nat.reduceLT, Nat.reduceLeDiff, reduceCtorEq, Int.reduceToNat]) <;> (try simp (disch := omega) only [qw])
  · obtain ⟨hi, ha⟩ := hi
    repeat' (first | refine qs ?_ | refine qg ?_ | refine qi ?_ | ((first | refine qu ?_ | refine qq (by rfl) ?_ | refine ql ?_ | refine qj ?_ | refine qo ?_ | refine qt ?_ | refine qn ?_ | refine qm ?_ | refine qp ?_); simp only [go_sem, ↓reduceIte, Nat.reduceEqDiff, Nat.reduceAdd, Nat.reduceSub, Nat.reduceMul, Nat.reduceLT, Nat.reduceLeDiff, reduceCtorEq, Int.reduceToNat]) | ((first | simp (disch := omega) only [qdu]); (try simp only [go_sem, ↓reduceIte, Nat.reduceEqDiff, Nat.reduceAdd, Nat.reduceSub, Nat.reduceMul, Nat.reduceLT, Nat.reduceLeDiff, reduceCtorEq, Int.reduceToNat])) | ((first | refine qh ?_ ?_ | refine qe ?_ ?_) <;> intro hc <;> simp only [hc, go_sem, ↓reduceIte, Nat.reduceEqDiff, Nat.reduceAdd, Nat.reduceSub, Nat.reduceMul, Nat.reduceLT, Nat.reduceLeDiff, reduceCtorEq, Int.reduceToNat] <;> (try simp only [qb, qa, decide_eq_true_eq, decide_eq_false_iff_not, Bool.and_eq_true] at hc)) | refine And.intro (by first | assumption | omega | (have := qk (by assumption); omega) | (unfold qy; omega)) ?_ | ((first | simp (disch := omega) only [qd] | simp (disch := omega) only [qw]); (try simp only [go_sem, ↓reduceIte, Nat.reduceEqDiff, Nat.reduceAdd, Nat.reduceSub, Nat.reduceMul, Nat.reduceLT, Nat.reduceLeDiff, reduceCtorEq, Int.reduceToNat])))
    · obtain ⟨g1, g2⟩ := qsi ha (by omega) (by assumption)
      rw [newK, g1, g2]; rfl
    · refine qbt (i + 1) [0] ⟨⟨by omega, qhx (by omega) ha (by assumption)⟩, by omega⟩ rfl (by simp) ?_ ?_ ?_ <;> (try simp only [go_sem, ↓reduceIte, Nat.reduceEqDiff, Nat.reduceAdd, Nat.reduceSub, Nat.reduceMul, Nat.reduceLT, Nat.reduceLeDiff, reduceCtorEq, Int.reduceToNat]) <;> (try simp (disch := omega) only [qw])
    · rw [List.take_of_length_le (by omega)] at ha
      obtain ⟨g1, g2⟩ := qr0 ha
      rw [newK, g1, g2]; rfl
theorem qbxn (x : Ent) (es : List AV) : co (x :: accE 4 es) (.sl 4) (accV 1 es) = .sl 4 es := by
  cases es with
  | nil => rw [qbv, qpv]
  | cons e es =>
    rw [qcb (by simp), qs7, qcc (by simp)]
    simp only [ent, q2p, if_true]
def qzh (l : List T) (i : Nat) : AF × List Ent :=
  (⟨[(3, .ptr 0 0), (8, .sl 4 (qc1 l)), (9, .int .i64 l.length), (10, .int .i64 i)], []⟩,
    .blk [accV 1 (qc1 (l.take i)), .int .i64 0, .int .i64 0, .int .i64 0, .str [], .int .i64 0, .int .i64 0, .int .i64 0, .int .i64 0] :: accE 4 (qc1 (l.take i)))
theorem qkj {l : List T} (h : l ≠ []) : qc1 l ≠ [] := by cases l with | nil => exact absurd rfl h | cons _ _ => simp [qc1]
theorem qxm {l : List T} {i : Nat} (h : i < l.length) : l.take (i + 1) = l.take i ++ [l.getD i T0] := by
  rw [List.take_add_one, List.getElem?_eq_getElem h, List.getD_eq_getElem?_getD, List.getElem?_eq_getElem h]; rfl
theorem capT {n : Nat} (h : n ≤ 1048580) : qy n 40 := by unfold qy; omega
theorem qpy (l : List T) (hl : l.length ≤ 1048577) : VCalls Tryz.prog 6 [] [.sl 4 (qc1 l)] fun H' o => H' = [curE (newK l)] ∧ o = .val (.ptr 0 0) := by
  refine qbh c0ck 1 (by simp) (by simp) ?_
  have hmx : (1048577 : Nat) ≤ maxLen := by unfold maxLen; omega
  repeat' (first | refine qs ?_ | refine qg ?_ | refine qi ?_ | ((first | refine qu ?_ | refine qq (by rfl) ?_ | refine ql ?_ | refine qj ?_ | refine qo ?_ | refine qt ?_ | refine qn ?_ | refine qm ?_ | refine qp ?_); simp only [go_sem, ↓reduceIte, Nat.reduceEqDiff, Nat.reduceAdd, Nat.reduceSub, Nat.reduceMul, Nat.reduceLT, Nat.reduceLeDiff, reduceCtorEq, Int.reduceToNat]) | ((first | refine qh ?_ ?_ | refine qe ?_ ?_) <;> intro hc <;> simp only [hc, go_sem, ↓reduceIte, Nat.reduceEqDiff, Nat.reduceAdd, Nat.reduceSub, Nat.reduceMul, Nat.reduceLT, Nat.reduceLeDiff, reduceCtorEq, Int.reduceToNat] <;> (try simp only [qb, qa, decide_eq_true_eq, decide_eq_false_iff_not, Bool.and_eq_true] at hc)) | refine And.intro (by first | assumption | omega | (have := qk (by assumption); omega) | (unfold qy; omega)) ?_ | ((first | simp (disch := omega) only [qd] | simp (disch := omega) only [qw]); (try simp only [go_sem, ↓reduceIte, Nat.reduceEqDiff, Nat.reduceAdd, Nat.reduceSub, Nat.reduceMul, Nat.reduceLT, Nat.reduceLeDiff, reduceCtorEq, Int.reduceToNat])))
  refine qca (S := Nat) (fun i => i ≤ l.length ∧ ∀ t ∈ l.take i, t.kind ≠ 0) (qzh l) (fun i => l.length - i) ?_ fun i hi => ?_
  · refine qbt 0 [0] ⟨Nat.zero_le _, by simp⟩ rfl (by simp) ?_ ?_ ?_ <;> simp only [qzh, List.take_zero, qgp, qbv, qbx] <;> (try simp only [go_sem, ↓reduceIte, Nat.reduceEqDiff, Nat.reduceAdd, Nat.reduceSub, Nat.reduceMul, Nat.reduceLT, Nat.reduceLeDiff, reduceCtorEq, Int.reduceToNat]) <;> (try simp (disch := omega) only [qw])
  · obtain ⟨hi, ha⟩ := hi
    unfold qzh
    by_cases hx : i < l.length ∧ (l.getD i T0).kind ≠ 0
    · have hT : AV.agg [.int .i64 (l.getD i T0).kind, .int .i64 (l.getD i T0).pos, .int .i64 (l.getD i T0).num, .str (l.getD i T0).text] = encT (l.getD i T0) := rfl
      have hts := qxm hx.1
      have hne : qc1 (l.take (i + 1)) ≠ [] := qkj (by rw [hts]; simp)
      have hlen : (l.take (i + 1)).length = i + 1 := by rw [List.length_take]; omega
      by_cases h0 : i = 0
      · subst h0
        simp only [List.take_zero, qgp, qbv, qbx]
        repeat' (first | refine qs ?_ | refine qg ?_ | refine qi ?_ | ((first | refine qu ?_ | refine qq (by rfl) ?_ | refine ql ?_ | refine qj ?_ | refine qo ?_ | refine qt ?_ | refine qn ?_ | refine qm ?_ | refine qp ?_); simp only [go_sem, ↓reduceIte, Nat.reduceEqDiff, Nat.reduceAdd, Nat.reduceSub, Nat.reduceMul, Nat.reduceLT, Nat.reduceLeDiff, reduceCtorEq, Int.reduceToNat]) | ((first | simp (disch := omega) only [qdu]); (try simp only [go_sem, ↓reduceIte, Nat.reduceEqDiff, Nat.reduceAdd, Nat.reduceSub, Nat.reduceMul, Nat.reduceLT, Nat.reduceLeDiff, reduceCtorEq, Int.reduceToNat])) | ((first | refine qh ?_ ?_ | refine qe ?_ ?_) <;> intro hc <;> simp only [hc, go_sem, ↓reduceIte, Nat.reduceEqDiff, Nat.reduceAdd, Nat.reduceSub, Nat.reduceMul, Nat.reduceLT, Nat.reduceLeDiff, reduceCtorEq, Int.reduceToNat] <;> (try simp only [qb, qa, decide_eq_true_eq, decide_eq_false_iff_not, Bool.and_eq_true] at hc)) | refine And.intro (by first | assumption | omega | (have := qk (by assumption); omega) | (unfold qy; omega)) ?_ | ((first | simp (disch := omega) only [qd] | simp (disch := omega) only [qw]); (try simp only [go_sem, ↓reduceIte, Nat.reduceEqDiff, Nat.reduceAdd, Nat.reduceSub, Nat.reduceMul, Nat.reduceLT, Nat.reduceLeDiff, reduceCtorEq, Int.reduceToNat])))
        · exact absurd (by assumption) hx.2
        · refine qbt 1 [0, 2] ⟨⟨by omega, qhx (by omega) ha hx.2⟩, by omega⟩ rfl (by simp) ?_ ?_ ?_
          all_goals simp only [qzh, qcb hne, qcc hne, qfb, hlen]
          all_goals (try simp only [Nat.zero_add] at hts)
          all_goals simp only [hts, List.take_zero, List.nil_append]
          all_goals simp only [go_sem, ↓reduceIte, Nat.reduceEqDiff, Nat.reduceAdd, Nat.reduceSub, Nat.reduceMul, Nat.reduceLT, Nat.reduceLeDiff, reduceCtorEq, Int.reduceToNat]
          all_goals first | exact ⟨rfl, rfl⟩ | exact congrArg _ (by decide) | rfl | trace_state
        · omega
      · have hne0 : qc1 (l.take i) ≠ [] := qkj (by intro e; have := congrArg List.length e; simp only [List.length_take, List.length_nil] at this; omega)
        have hli : (l.take i).length = i := by rw [List.length_take]; omega
        simp only [qcb hne0, qcc hne0, qfb]
        have hat : ∀ ac : List T, ac = l.take i → qc1 ac ++ [encT (l.getD i T0)] = qc1 (l.take (i + 1)) := fun ac e => by rw [e, qgu, hts]
        generalize hac : l.take i = ac at *
        have hcap : qy (ac.length + 1) 40 := capT (by omega)
        have hil : (i : Int) < l.length := by omega
        have hkd := hx.2
        repeat' (first | refine qs ?_ | refine qg ?_ | refine qi ?_ | ((first | refine qu ?_ | refine qq (by rfl) ?_ | refine ql ?_ | refine qj ?_ | refine qo ?_ | refine qt ?_ | refine qn ?_ | refine qm ?_ | refine qp ?_); simp (disch := first | omega | (simp only [List.length_set, List.length_append, List.length_cons, List.length_nil]; done) | (simp only [List.length_set, List.length_append, List.length_cons, List.length_nil]; omega)) only [hil, hkd, qdu, ne_eq, go_sem, ↓reduceIte, Nat.reduceEqDiff, Nat.reduceAdd, Nat.reduceSub, Nat.reduceMul, Nat.reduceLT, Nat.reduceLeDiff, reduceCtorEq, Int.reduceToNat]) | ((first | refine qh ?_ ?_ | refine qe ?_ ?_) <;> intro hc <;> simp only [hc, go_sem, ↓reduceIte, Nat.reduceEqDiff, Nat.reduceAdd, Nat.reduceSub, Nat.reduceMul, Nat.reduceLT, Nat.reduceLeDiff, reduceCtorEq, Int.reduceToNat] <;> (try simp only [qb, qa, decide_eq_true_eq, decide_eq_false_iff_not, Bool.and_eq_true] at hc)) | refine And.intro (by first | assumption | omega | (have := qk (by assumption); omega) | (unfold qy; omega)) ?_ | ((first | simp (disch := omega) only [qd] | simp (disch := omega) only [qw]); (try simp only [go_sem, ↓reduceIte, Nat.reduceEqDiff, Nat.reduceAdd, Nat.reduceSub, Nat.reduceMul, Nat.reduceLT, Nat.reduceLeDiff, reduceCtorEq, Int.reduceToNat])))
        · refine qbt (i + 1) [0, 3] ⟨⟨by omega, qhx (by omega) (by rw [hac]; exact ha) hx.2⟩, by omega⟩ rfl (by simp) ?_ ?_ ?_
          all_goals simp only [qzh, qcb hne, qcc hne, qfb, hlen]
          all_goals rw [← hat ac rfl]
          all_goals simp only [go_sem, ↓reduceIte, Nat.reduceEqDiff, Nat.reduceAdd, Nat.reduceSub, Nat.reduceMul, Nat.reduceLT, Nat.reduceLeDiff, reduceCtorEq, Int.reduceToNat]
          rw [hli, qgu ac, qij]
          exact ⟨rfl, qhu _ _, rfl⟩
    · refine qrd 0 0 (.sl 4) rfl ?_
      simp only [List.set_cons_zero, List.getD_cons_zero, qbxn]
      repeat' (first | refine qs ?_ | refine qg ?_ | refine qi ?_ | ((first | refine qu ?_ | refine qq (by rfl) ?_ | refine ql ?_ | refine qj ?_ | refine qo ?_ | refine qt ?_ | refine qn ?_ | refine qm ?_ | refine qp ?_); simp only [go_sem, ↓reduceIte, Nat.reduceEqDiff, Nat.reduceAdd, Nat.reduceSub, Nat.reduceMul, Nat.reduceLT, Nat.reduceLeDiff, reduceCtorEq, Int.reduceToNat]) | ((first | simp (disch := omega) only [qdu]); (try simp only [go_sem, ↓reduceIte, Nat.reduceEqDiff, Nat.reduceAdd, Nat.reduceSub, Nat.reduceMul, Nat.reduceLT, Nat.reduceLeDiff, reduceCtorEq, Int.reduceToNat])) | ((first | refine qh ?_ ?_ | refine qe ?_ ?_) <;> intro hc <;> simp only [hc, go_sem, ↓reduceIte, Nat.reduceEqDiff, Nat.reduceAdd, Nat.reduceSub, Nat.reduceMul, Nat.reduceLT, Nat.reduceLeDiff, reduceCtorEq, Int.reduceToNat] <;> (try simp only [qb, qa, decide_eq_true_eq, decide_eq_false_iff_not, Bool.and_eq_true] at hc)) | refine And.intro (by first | assumption | omega | (have := qk (by assumption); omega) | (unfold qy; omega)) ?_ | ((first | simp (disch := omega) only [qd] | simp (disch := omega) only [qw]); (try simp only [go_sem, ↓reduceIte, Nat.reduceEqDiff, Nat.reduceAdd, Nat.reduceSub, Nat.reduceMul, Nat.reduceLT, Nat.reduceLeDiff, reduceCtorEq, Int.reduceToNat])))
      · obtain ⟨g1, g2⟩ := qsi ha (by omega) (by assumption)
        rw [newK, g1, g2]; rfl
      · exact hx ⟨by omega, by assumption⟩
      · rw [List.take_of_length_le (by omega)] at ha ⊢
        obtain ⟨g1, g2⟩ := qr0 ha
        rw [newK, g1, g2]; rfl
end Go.Proofs.YtmekebfgmjaenaaGreat
