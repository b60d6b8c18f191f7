/- Texts of this proof, joined. -/
import Derived.Test.YtfjbmjplnmaclaaWat
import Derived.Test.YtfjbmjplnmaclaaWau

/- the cursor: what it is, what its methods do -/
set_option maxRecDepth 4000
namespace Go.Proofs.Ytfjbmjplnmaclaa
open Go Go.RowKit Go.V
set_option linter.unusedVariables false
set_option linter.unusedSimpArgs false

attribute [go_sem] cond_true cond_false
/-- A cursor. -/
structure K where
  l : List T
  ep : Int
  at' : Nat
  nest : Nat
  err : Int
  pos : Int
def K.ok (c : K) : Prop := c.at' ≤ c.l.length ∧ c.l.length ≤ maxLen
def curE (c : K) : Ent := .blk [.sl 4 (qde c.l), .int .i64 0, .int .i64 c.ep, .int .i64 0, .str [], .int .i64 c.at', .int .i64 c.nest, .int .i64 c.err, .int .i64 c.pos]
def K.bad (c : K) : Bool := !decide (c.err = 0)
theorem qfk {c : K} (h : c.bad = false) : c.err = 0 := by simpa [K.bad] using h
theorem qfo {c : K} (h : c.bad = true) : ¬ c.err = 0 := by simpa [K.bad] using h
def qba (c : K) : T := if c.err = 0 then if c.at' < c.l.length then c.l.getD c.at' T0 else ⟨0, c.ep, 0, []⟩ else T0
def qbg (c : K) : K := if c.err = 0 then if c.at' < c.l.length then { c with at' := c.at' + 1 } else c else c
def qlw (t : T) (s : List UInt8) : Bool := (decide (t.kind = 4) || decide (t.kind = 5)) && decide (t.text = s)
def isK (c : K) (s : List UInt8) : Bool := decide (c.err = 0) && qlw (qba c) s
def qea (c : K) (e : Int) : K := if c.err = 0 then { c with err := if e = 0 then 1 else e, pos := (qba c).pos } else c
def qw (c : K) (s : List UInt8) : K × Bool := if isK c s = true then (qbg c, true) else (c, false)
def qx (c : K) (s : List UInt8) : K × Bool := if isK c s = true then (qbg c, true) else (qea c 5, false)
def qp (c : K) : K × Bool := if c.err = 0 then if c.nest < 200 then ({ c with nest := c.nest + 1 }, true) else (qea c 2, false) else (c, false)
def qdg (c : K) : K := if c.err = 0 then if 0 < c.nest then { c with nest := c.nest - 1 } else c else c
def qek (c : K) : Int × Int := if c.err = 0 then if c.at' < c.l.length then ((c.l.getD c.at' T0).pos, 5) else (c.ep, 0) else (c.pos, c.err)

theorem q7 (k : Nat) (c : K) : (curE c).bd k = true := by
  simp only [curE, Ent.bd, AV.bds, AV.bd, qh2, Bool.and_true]
theorem qci (σ : Nat → Nat) (c : K) : (curE c).ren σ = curE c := Ent.ren_same (m := 0) (fun i hi => by omega) _ (q7 0 c)
attribute [go_sem] curE
/-- A call that leaves the first entry so. -/
def qbz (P : Program) (f : FuncId) (e e' : Ent) (args : List AV) (r : AV) : Prop := VCalls P f [e] args fun H' o => H' = [e'] ∧ o = .val r
section
variable {P : Program} {f : FuncId} {e e' : Ent} {L : List Ent} {args : List AV} {r : AV} {Q : List Ent → VO → Prop}
theorem qbv (h : qbz P f e e' args r) (hb : e.bd 1 = true) (hb' : e'.bd 1 = true) (ha : AV.bds 1 args = true) (hr : r.bd 1 = true) (hq : r.wf → Q (e' :: L) (.val r)) : VApp P (e :: L) (.fn f [] []) args Q :=
  qby (first := []) (caps := []) (by
    simp only [List.nil_append, List.append_nil]
    refine qcs (H0 := [e]) (L := L) (h.mono' (Q' := fun H' o => (H' = [e'] ∧ o = .val r) ∧ r.wf) fun H' o hw ho => ⟨ho, by have := ho.2; subst this; exact hw⟩) (by simp [hb]) ha ?_
    rintro H1 o ⟨⟨rfl, rfl⟩, hw⟩
    exact ⟨rfl, by simp [hb'], hr, hq hw⟩)
theorem qzt (h : qbz P f e e args r) (hb : e.bd 1 = true) (ha : AV.bds 1 args = true) (hr : r.bd 1 = true) {Kk : Md → AV → List Ent → Prop} (hq : r.wf → Kk .here r (e :: L)) (hw : r.wf) : DApp P (e :: L) (.fn f [] []) args Kk :=
  .inl ⟨r, qbv h hb hb ha hr fun _ => ⟨rfl, rfl⟩, hq hw⟩
/-- A call that changes the first entry, wherever else it is made. -/
theorem qbmo (h : qbz P f e e' args r) (hb : e.bd 1 = true) (hb' : e'.bd 1 = true) (ha : AV.bds 1 args = true) (hr : r.bd 1 = true) (hn : e ≠ .dead) {Kk : Md → AV → List Ent → Prop} (hq : Kk (.meth 0 e e') r (e' :: L)) : DApp P (e :: L) (.fn f [] []) args Kk :=
  .inr (.inr ⟨r, 0, e, e', ⟨hn, rfl, fun H₀ h0 => by
    cases H₀ with
    | nil => exact absurd h0.symm hn
    | cons x L' =>
      cases (show x = e from h0)
      exact qbv h hb hb' ha hr fun _ => ⟨rfl, rfl⟩⟩, hq⟩)
end

theorem qm0 (c : K) : qbz Try.prog 30 (curE c) (curE c) [.ptr 0 0] (.bool c.bad) := by
  refine qs c0cb 1 (by simp) (by simp) ?_
  unfold K.bad
  repeat' (first | refine qi ?_ | ((first | refine qm ?_ | refine qj ?_ | ((first | refine qe ?_ ?_ | refine qc ?_ ?_) <;> intro hc <;> (try simp only [hc]) <;> (try simp only [qb, qa, decide_eq_true_eq, decide_eq_false_iff_not, Bool.and_eq_true] at hc)) | refine And.intro (by first | assumption | omega | (have := qf (by assumption); omega) | (unfold qo; omega)) ?_ | simp (disch := omega) only [qd] | simp (disch := omega) only [qn]) <;> (try simp only [go_sem, ↓reduceIte, Nat.reduceEqDiff, Nat.reduceAdd, Nat.reduceSub, Nat.reduceMul, Nat.reduceLT, Nat.reduceLeDiff, reduceCtorEq, Int.reduceToNat])))
section
variable {c : K} {L : List Ent} {Q : List Ent → VO → Prop} {Kk : Md → AV → List Ent → Prop}
theorem qfd (h : Q (curE c :: L) (.val (.bool c.bad))) : VApp Try.prog (curE c :: L) (.fn 30 [] []) [.ptr 0 0] Q := qbv (qm0 c) (q7 _ _) (q7 _ _) rfl rfl fun _ => h
theorem q4o (h : Kk .here (.bool c.bad) (curE c :: L)) : DApp Try.prog (curE c :: L) (.fn 30 [] []) [.ptr 0 0] Kk := qzt (qm0 c) (q7 _ _) rfl rfl (fun _ => h) trivial
end
section
variable {c : K}
theorem qyb (h : ¬ c.err = 0) : qba c = T0 := if_neg h
theorem qsn (h : c.err = 0) (h2 : (c.at' : Int) < c.l.length) : qba c = c.l.getD c.at' T0 := by rw [qba, if_pos h, if_pos (by omega)]
theorem qpr (h : c.err = 0) (h2 : ¬ (c.at' : Int) < c.l.length) : qba c = ⟨0, c.ep, 0, []⟩ := by rw [qba, if_pos h, if_neg (by omega)]
theorem qxn (h : ¬ c.err = 0) : qbg c = c := if_neg h
theorem qsy (h : c.err = 0) (h2 : (c.at' : Int) < c.l.length) : qbg c = { c with at' := c.at' + 1 } := by rw [qbg, if_pos h, if_pos (by omega)]
theorem qyx (h : c.err = 0) (h2 : ¬ (c.at' : Int) < c.l.length) : qbg c = c := by rw [qbg, if_pos h, if_neg (by omega)]
theorem qlb {e : Int} (h : ¬ c.err = 0) : qea c e = c := if_neg h
theorem qbgs (h : c.err = 0) : qea c 0 = { c with err := 1, pos := (qba c).pos } := by rw [qea, if_pos h, if_pos rfl]
theorem qbic {e : Int} (h : c.err = 0) (he : ¬ e = 0) : qea c e = { c with err := e, pos := (qba c).pos } := by rw [qea, if_pos h, if_neg he]
end
section
variable {c : K} {x : List UInt8}
theorem q77 (h : isK c x = true) : qw c x = (qbg c, true) := if_pos h
theorem q8f (h : isK c x = false) : qw c x = (c, false) := by rw [qw, h]; rfl
theorem q92 (h : (qw c x).2 = true) : qx c x = ((qw c x).1, true) := by
  unfold qw qx at *
  split at h
  · rename_i h1; rw [if_pos h1, if_pos h1]
  · cases h
theorem q8c (h : (qw c x).2 = false) : qx c x = (qea (qw c x).1 5, false) := by
  unfold qw qx at *
  split at h
  · cases h
  · rename_i h1; rw [if_neg h1, if_neg h1]
theorem qtl (h : ¬ c.err = 0) : qp c = (c, false) := if_neg h
theorem qvd (h : c.err = 0) (h2 : ¬ (200 : Int) ≤ c.nest) : qp c = ({ c with nest := c.nest + 1 }, true) := by rw [qp, if_pos h, if_pos (by omega)]
theorem qq7 (h : c.err = 0) (h2 : (200 : Int) ≤ c.nest) : qp c = (qea c 2, false) := by rw [qp, if_pos h, if_neg (by omega)]
theorem qt1 (h : ¬ c.err = 0) : qdg c = c := if_neg h
theorem qv8 (h : c.err = 0) (h2 : (0 : Int) < c.nest) : qdg c = { c with nest := c.nest - 1 } := by rw [qdg, if_pos h, if_pos (by omega)]
theorem q1i (h : c.err = 0) (h2 : ¬ (0 : Int) < c.nest) : qdg c = c := by rw [qdg, if_pos h, if_neg (by omega)]
theorem qw5 (h : ¬ c.err = 0) : qek c = (c.pos, c.err) := if_neg h
theorem q0z (h : c.err = 0) (h2 : (c.at' : Int) < c.l.length) : qek c = ((c.l.getD c.at' T0).pos, 5) := by rw [qek, if_pos h, if_pos (by omega)]
theorem qwz (h : c.err = 0) (h2 : ¬ (c.at' : Int) < c.l.length) : qek c = (c.ep, 0) := by rw [qek, if_pos h, if_neg (by omega)]
end
theorem q2l (c : K) : qbz Try.prog 19 (curE c) (curE c) [.ptr 0 0] (encT (qba c)) := by
  refine qs c0cc 1 (by simp) (by simp) ?_
  repeat' (first | refine qi ?_ | refine qk ?_ | ((first | refine qm ?_ | refine qcm (by rfl) ?_ | refine q9 ?_ | refine qj ?_ | refine qh ?_ | refine qg ?_ | refine qfd ?_ | simp (disch := omega) only [qev] | ((first | refine qe ?_ ?_ | refine qc ?_ ?_) <;> intro hc <;> (try simp only [hc]) <;> (try simp only [qb, qa, decide_eq_true_eq, decide_eq_false_iff_not, Bool.and_eq_true] at hc)) | refine And.intro (by first | assumption | omega | (have := qf (by assumption); omega) | (unfold qo; omega)) ?_ | simp (disch := omega) only [qd] | simp (disch := omega) only [qn]) <;> (try simp only [go_sem, ↓reduceIte, Nat.reduceEqDiff, Nat.reduceAdd, Nat.reduceSub, Nat.reduceMul, Nat.reduceLT, Nat.reduceLeDiff, reduceCtorEq, Int.reduceToNat])))
  · rw [qyb (qfo (by assumption))]; rfl
  · rw [qsn (qfk (by assumption)) (by assumption)]
  · rw [qpr (qfk (by assumption)) (by assumption)]; rfl
section
variable {c : K} {L : List Ent} {Q : List Ent → VO → Prop} {Kk : Md → AV → List Ent → Prop}
theorem qbu (h : Q (curE c :: L) (.val (encT (qba c)))) : VApp Try.prog (curE c :: L) (.fn 19 [] []) [.ptr 0 0] Q := qbv (q2l c) (q7 _ _) (q7 _ _) rfl rfl fun _ => h
end
def qdc (t : T) (ls : List (List UInt8)) : Bool := (decide (t.kind = 4) || decide (t.kind = 5)) && ls.contains t.text
theorem qy0 (t : T) (ls : List (List UInt8)) : qc4 Try.prog 52 [encT t, .sl 1 (ls.map AV.str)] (.bool (qdc t ls)) := by
  refine qb3 c0cd (by simp) (by simp only [go_sem]) rfl fun hw => ?_
  have h1 : ls.length ≤ maxLen := by have := hw.2.1.1; rwa [qr5] at this
  have loop : ∀ (Q : VE → AF → List Ent → Prop) (tm : List (Nat × AV)) (H : List Ent), qdc t ls = ls.contains t.text → H = [.blk [.int .i64 t.kind, .int .i64 t.pos, .int .i64 t.num, .str t.text]] →
      (get tm 2 = .ptr 0 0 ∧ get tm 15 = .sl 1 (ls.map AV.str) ∧ get tm 16 = .int .i64 ls.length ∧ get tm 17 = .int .i64 0) →
      Q = blq 0 (sq Try.prog none 26 0 (k0cd_r11.seq IC.ret) (retq 0 [(RV.t 4, Co.id)] fun H' o => o = VO.val (AV.bool (qdc t ls)))) →
      VI Try.prog none 26 0 k0cd_l4.loop Q ⟨tm, []⟩ H := by
    rintro Q tm H hwd rfl ⟨h2, h15, h16, h17⟩ rfl
    rw [hwd]
    refine qcx (S := Nat) (fun i => i ≤ ls.length ∧ ls.contains t.text = (ls.drop i).contains t.text) (fun i => (⟨[(2, .ptr 0 0), (15, .sl 1 (ls.map AV.str)), (16, .int .i64 ls.length), (17, .int .i64 i)], []⟩, [.blk [.int .i64 t.kind, .int .i64 t.pos, .int .i64 t.num, .str t.text]])) (fun i => ls.length - i) ?_ fun i hi => ?_
    · refine qb5 0 [0] ⟨Nat.zero_le _, rfl⟩ rfl (by simp) ?_ ?_ ?_ <;> (try simp only [go_sem, ↓reduceIte, Nat.reduceEqDiff, Nat.reduceAdd, Nat.reduceSub, Nat.reduceMul, Nat.reduceLT, Nat.reduceLeDiff, reduceCtorEq, Int.reduceToNat]) <;> (try simp (disch := omega) only [qn])
      exact ⟨h2, h15, h16, h17⟩
    · obtain ⟨hi, ha⟩ := hi
      repeat' (first | refine qi ?_ | refine qk ?_ | ((first | refine qm ?_ | refine qj ?_ | refine qr ?_ | refine qh ?_ | refine qg ?_ | simp (disch := omega) only [qo6] | ((first | refine qe ?_ ?_ | refine qc ?_ ?_) <;> intro hc <;> (try simp only [hc]) <;> (try simp only [qb, qa, decide_eq_true_eq, decide_eq_false_iff_not, Bool.and_eq_true] at hc)) | refine And.intro (by first | assumption | omega | (have := qf (by assumption); omega) | (unfold qo; omega)) ?_ | simp (disch := omega) only [qd] | simp (disch := omega) only [qn]) <;> (try simp only [go_sem, ↓reduceIte, Nat.reduceEqDiff, Nat.reduceAdd, Nat.reduceSub, Nat.reduceMul, Nat.reduceLT, Nat.reduceLeDiff, reduceCtorEq, Int.reduceToNat])))
      · rw [ha, qkl (i := i) (by omega), List.contains_cons, hc]; simp
      · refine qb5 (i + 1) [0] ⟨⟨by omega, ?_⟩, by omega⟩ rfl (by simp) ?_ ?_ ?_ <;> (try simp only [go_sem, ↓reduceIte, Nat.reduceEqDiff, Nat.reduceAdd, Nat.reduceSub, Nat.reduceMul, Nat.reduceLT, Nat.reduceLeDiff, reduceCtorEq, Int.reduceToNat]) <;> (try simp (disch := omega) only [qn])
        rw [ha, qkl (i := i) (by omega), List.contains_cons, beq_eq_false_iff_ne.2 hc, Bool.false_or]
      · rw [ha, List.drop_of_length_le (by omega)]; rfl
  repeat' (first | refine qi ?_ | refine qk ?_ | ((first | refine qm ?_ | refine qj ?_ | refine qr ?_ | refine qh ?_ | refine qg ?_ | ((first | refine qe ?_ ?_ | refine qc ?_ ?_) <;> intro hc <;> (try simp only [hc]) <;> (try simp only [qb, qa, decide_eq_true_eq, decide_eq_false_iff_not, Bool.and_eq_true] at hc)) | refine And.intro (by first | assumption | omega | (have := qf (by assumption); omega) | (unfold qo; omega)) ?_ | simp (disch := omega) only [qd] | simp (disch := omega) only [qn]) <;> (try simp only [go_sem, ↓reduceIte, Nat.reduceEqDiff, Nat.reduceAdd, Nat.reduceSub, Nat.reduceMul, Nat.reduceLT, Nat.reduceLeDiff, reduceCtorEq, Int.reduceToNat])))
  · rw [show qdc t ls = false by simp [qdc, *]]
  · exact loop _ _ _ (by simp [qdc, *]) rfl ⟨rfl, rfl, rfl, rfl⟩ rfl
  · exact loop _ _ _ (by simp [qdc, *]) rfl ⟨rfl, rfl, rfl, rfl⟩ rfl
theorem q4a (t : T) (x : List UInt8) : qdc t [x] = qlw t x := by
  unfold qdc qlw
  congr 1
  by_cases h : t.text = x
  · simp [h]
  · simp [h]
theorem qnj (t : T) (x : List UInt8) : qc4 Try.prog 52 [encT t, .sl 1 [.str x]] (.bool (qlw t x)) := by
  rw [← q4a]; exact qy0 t [x]
theorem qz4 (c : K) (hk : c.ok) : qbz Try.prog 34 (curE c) (curE (qbg c)) [.ptr 0 0] (encT (qba c)) := by
  refine qs c0ce 1 (by simp) (by simp) ?_
  have h1 := hk.1
  have h2 := hk.2
  repeat' (first | refine qi ?_ | ((first | refine qm ?_ | refine qcm (by rfl) ?_ | refine q9 ?_ | refine qj ?_ | refine qh ?_ | refine qg ?_ | refine qfd ?_ | refine q4o ?_ | refine qbu ?_ | simp (disch := omega) only [qn] | ((first | refine qe ?_ ?_ | refine qc ?_ ?_) <;> intro hc <;> (try simp only [hc]) <;> (try simp only [qb, qa, decide_eq_true_eq, decide_eq_false_iff_not, Bool.and_eq_true] at hc)) | refine And.intro (by first | assumption | omega | (have := qf (by assumption); omega) | (unfold qo; omega)) ?_ | simp (disch := omega) only [qd] | simp (disch := omega) only [qn]) <;> (try simp only [go_sem, ↓reduceIte, Nat.reduceEqDiff, Nat.reduceAdd, Nat.reduceSub, Nat.reduceMul, Nat.reduceLT, Nat.reduceLeDiff, reduceCtorEq, Int.reduceToNat])))
  · rw [qsy (qfk (by assumption)) (by assumption)]
  · rw [qyx (qfk (by assumption)) (by assumption)]
  · rw [qxn (qfo (by assumption))]
section
variable {c : K} {L : List Ent} {Q : List Ent → VO → Prop} {Kk : Md → AV → List Ent → Prop} {x : List UInt8} {e : Int}
theorem qgq (hk : c.ok) (h : Q (curE (qbg c) :: L) (.val (encT (qba c)))) : VApp Try.prog (curE c :: L) (.fn 34 [] []) [.ptr 0 0] Q := qbv (qz4 c hk) (q7 _ _) (q7 _ _) rfl rfl fun _ => h
theorem qbm6 (c : K) (x : List UInt8) : qbz Try.prog 33 (curE c) (curE c) [.ptr 0 0, .str x] (.bool (isK c x)) := by
  refine qs c0cf 1 (by simp) (by simp) ?_
  repeat' (first | refine qi ?_ | ((first | refine qm ?_ | refine qj ?_ | refine qfd ?_ | refine qbu ?_ | refine qv (qnj _ _) fun _ => ?_ | refine qy  (qnj _ _) ?_ | ((first | refine qe ?_ ?_ | refine qc ?_ ?_) <;> intro hc <;> (try simp only [hc]) <;> (try simp only [qb, qa, decide_eq_true_eq, decide_eq_false_iff_not, Bool.and_eq_true] at hc)) | refine And.intro (by first | assumption | omega | (have := qf (by assumption); omega) | (unfold qo; omega)) ?_ | simp (disch := omega) only [qd] | simp (disch := omega) only [qn]) <;> (try simp only [go_sem, ↓reduceIte, Nat.reduceEqDiff, Nat.reduceAdd, Nat.reduceSub, Nat.reduceMul, Nat.reduceLT, Nat.reduceLeDiff, reduceCtorEq, Int.reduceToNat])))
  · rw [isK, decide_eq_true (qfk (by assumption))]; rfl
  · rw [isK, decide_eq_false (qfo (by assumption))]; rfl
theorem a_Is (h : Q (curE c :: L) (.val (.bool (isK c x)))) : VApp Try.prog (curE c :: L) (.fn 33 [] []) [.ptr 0 0, .str x] Q := qbv (qbm6 c x) (q7 _ _) (q7 _ _) rfl rfl fun _ => h
theorem qrn (c : K) (e : Int) : qbz Try.prog 43 (curE c) (curE (qea c e)) [.ptr 0 0, .int .i64 e] (.bool false) := by
  refine qs c0cg 1 (by simp) (by simp) ?_
  repeat' (first | refine qi ?_ | ((first | refine qm ?_ | refine qj ?_ | refine qh ?_ | refine qg ?_ | refine qfd ?_ | refine qbu ?_ | ((first | refine qe ?_ ?_ | refine qc ?_ ?_) <;> intro hc <;> (try simp only [hc]) <;> (try simp only [qb, qa, decide_eq_true_eq, decide_eq_false_iff_not, Bool.and_eq_true] at hc)) | refine And.intro (by first | assumption | omega | (have := qf (by assumption); omega) | (unfold qo; omega)) ?_ | simp (disch := omega) only [qd] | simp (disch := omega) only [qn]) <;> (try simp only [go_sem, ↓reduceIte, Nat.reduceEqDiff, Nat.reduceAdd, Nat.reduceSub, Nat.reduceMul, Nat.reduceLT, Nat.reduceLeDiff, reduceCtorEq, Int.reduceToNat])))
  · subst hc; rw [qbgs (qfk (by assumption))]
  · rw [qbic (qfk (by assumption)) (by assumption)]
  · rw [qlb (qfo (by assumption))]
theorem qmx (h : Q (curE (qea c e) :: L) (.val (.bool false))) : VApp Try.prog (curE c :: L) (.fn 43 [] []) [.ptr 0 0, .int .i64 e] Q := qbv (qrn c e) (q7 _ _) (q7 _ _) rfl rfl fun _ => h
theorem qei {Kk : Md → AV → List Ent → Prop} (h : Kk (.meth 0 (curE c) (curE (qea c e))) (.bool false) (curE (qea c e) :: L)) : DApp Try.prog (curE c :: L) (.fn 43 [] []) [.ptr 0 0, .int .i64 e] Kk := qbmo (qrn c e) (q7 _ _) (q7 _ _) rfl rfl (by simp [curE]) h
theorem q4g (c : K) (hk : c.ok) (x : List UInt8) : qbz Try.prog 26 (curE c) (curE (qw c x).1) [.ptr 0 0, .str x] (.bool (qw c x).2) := by
  refine qs c0ch 1 (by simp) (by simp) ?_
  repeat' (first | refine qi ?_ | ((first | refine qm ?_ | refine qj ?_ | refine qh ?_ | refine qg ?_ | refine a_Is ?_ | refine qgq hk ?_ | ((first | refine qe ?_ ?_ | refine qc ?_ ?_) <;> intro hc <;> (try simp only [hc]) <;> (try simp only [qb, qa, decide_eq_true_eq, decide_eq_false_iff_not, Bool.and_eq_true] at hc)) | refine And.intro (by first | assumption | omega | (have := qf (by assumption); omega) | (unfold qo; omega)) ?_ | simp (disch := omega) only [qd] | simp (disch := omega) only [qn]) <;> (try simp only [go_sem, ↓reduceIte, Nat.reduceEqDiff, Nat.reduceAdd, Nat.reduceSub, Nat.reduceMul, Nat.reduceLT, Nat.reduceLeDiff, reduceCtorEq, Int.reduceToNat])))
  · rw [q8f (by assumption)]; exact ⟨rfl, rfl⟩
  · rw [q77 (by assumption)]; exact ⟨rfl, rfl⟩
theorem qdh (hk : c.ok) (h : Q (curE (qw c x).1 :: L) (.val (.bool (qw c x).2))) : VApp Try.prog (curE c :: L) (.fn 26 [] []) [.ptr 0 0, .str x] Q := qbv (q4g c hk x) (q7 _ _) (q7 _ _) rfl rfl fun _ => h
theorem q45 (c : K) (hk : c.ok) (x : List UInt8) : qbz Try.prog 39 (curE c) (curE (qx c x).1) [.ptr 0 0, .str x] (.bool (qx c x).2) := by
  refine qs c0ci 1 (by simp) (by simp) ?_
  repeat' (first | refine qi ?_ | ((first | refine qm ?_ | refine qj ?_ | refine qdh hk ?_ | refine qmx ?_ | ((first | refine qe ?_ ?_ | refine qc ?_ ?_) <;> intro hc <;> (try simp only [hc]) <;> (try simp only [qb, qa, decide_eq_true_eq, decide_eq_false_iff_not, Bool.and_eq_true] at hc)) | refine And.intro (by first | assumption | omega | (have := qf (by assumption); omega) | (unfold qo; omega)) ?_ | simp (disch := omega) only [qd] | simp (disch := omega) only [qn]) <;> (try simp only [go_sem, ↓reduceIte, Nat.reduceEqDiff, Nat.reduceAdd, Nat.reduceSub, Nat.reduceMul, Nat.reduceLT, Nat.reduceLeDiff, reduceCtorEq, Int.reduceToNat])))
  · rw [q92 (by assumption)]; exact ⟨rfl, rfl⟩
  · rw [q8c (by assumption)]; exact ⟨rfl, rfl⟩
theorem qb0 (hk : c.ok) (h : Q (curE (qx c x).1 :: L) (.val (.bool (qx c x).2))) : VApp Try.prog (curE c :: L) (.fn 39 [] []) [.ptr 0 0, .str x] Q := qbv (q45 c hk x) (q7 _ _) (q7 _ _) rfl rfl fun _ => h
theorem qyo (c : K) : qbz Try.prog 53 (curE c) (curE (qp c).1) [.ptr 0 0] (.bool (qp c).2) := by
  refine qs c0cj 1 (by simp) (by simp) ?_
  repeat' (first | refine qi ?_ | ((first | refine qm ?_ | refine qj ?_ | refine qh ?_ | refine qg ?_ | refine qfd ?_ | refine qmx ?_ | ((first | refine qe ?_ ?_ | refine qc ?_ ?_) <;> intro hc <;> (try simp only [hc]) <;> (try simp only [qb, qa, decide_eq_true_eq, decide_eq_false_iff_not, Bool.and_eq_true] at hc)) | refine And.intro (by first | assumption | omega | (have := qf (by assumption); omega) | (unfold qo; omega)) ?_ | simp (disch := omega) only [qd] | simp (disch := omega) only [qn]) <;> (try simp only [go_sem, ↓reduceIte, Nat.reduceEqDiff, Nat.reduceAdd, Nat.reduceSub, Nat.reduceMul, Nat.reduceLT, Nat.reduceLeDiff, reduceCtorEq, Int.reduceToNat])))
  · rw [qtl (qfo (by assumption)), qlb (qfo (by assumption))]; exact ⟨rfl, rfl⟩
  · rw [qq7 (qfk (by assumption)) (by assumption)]; exact ⟨rfl, rfl⟩
  · rw [qvd (qfk (by assumption)) (by assumption), qgl (by omega) (by unfold maxLen; omega)]; exact ⟨rfl, rfl⟩
theorem qfp (h : Q (curE (qp c).1 :: L) (.val (.bool (qp c).2))) : VApp Try.prog (curE c :: L) (.fn 53 [] []) [.ptr 0 0] Q := qbv (qyo c) (q7 _ _) (q7 _ _) rfl rfl fun _ => h
theorem qwl (c : K) (hn : c.nest ≤ 200) : qbz Try.prog 55 (curE c) (curE (qdg c)) [.ptr 0 0] (.tup []) := by
  refine qs c0ck 1 (by simp) (by simp) ?_
  repeat' (first | refine qi ?_ | ((first | refine qm ?_ | refine qj ?_ | refine qh ?_ | refine qg ?_ | refine qfd ?_ | ((first | refine qe ?_ ?_ | refine qc ?_ ?_) <;> intro hc <;> (try simp only [hc]) <;> (try simp only [qb, qa, decide_eq_true_eq, decide_eq_false_iff_not, Bool.and_eq_true] at hc)) | refine And.intro (by first | assumption | omega | (have := qf (by assumption); omega) | (unfold qo; omega)) ?_ | simp (disch := omega) only [qd] | simp (disch := omega) only [qn]) <;> (try simp only [go_sem, ↓reduceIte, Nat.reduceEqDiff, Nat.reduceAdd, Nat.reduceSub, Nat.reduceMul, Nat.reduceLT, Nat.reduceLeDiff, reduceCtorEq, Int.reduceToNat])))
  · rw [qv8 (qfk (by assumption)) (by assumption), qgl (by omega) (by unfold maxLen; omega)]
    simp only [List.cons.injEq, Ent.blk.injEq, AV.int.injEq, true_and, and_true]; omega
  · rw [q1i (qfk (by assumption)) (by assumption)]
  · rw [qt1 (qfo (by assumption))]
theorem qd3 (hn : c.nest ≤ 200) (h : Q (curE (qdg c) :: L) (.val (.tup []))) : VApp Try.prog (curE c :: L) (.fn 55 [] []) [.ptr 0 0] Q := qbv (qwl c hn) (q7 _ _) (q7 _ _) rfl rfl fun _ => h
theorem qry (c : K) (hk : c.ok) : qbz Try.prog 23 (curE c) (curE c) [.ptr 0 0] (.tup [.int .i64 (qek c).1, .int .i64 (qek c).2]) := by
  refine qs c0cl 1 (by simp) (by simp) ?_
  repeat' (first | refine qi ?_ | refine qk ?_ | ((first | refine qm ?_ | refine qcm (by rfl) ?_ | refine q9 ?_ | refine qj ?_ | refine qh ?_ | refine qg ?_ | simp (disch := omega) only [qev] | ((first | refine qe ?_ ?_ | refine qc ?_ ?_) <;> intro hc <;> (try simp only [hc]) <;> (try simp only [qb, qa, decide_eq_true_eq, decide_eq_false_iff_not, Bool.and_eq_true] at hc)) | refine And.intro (by first | assumption | omega | (have := qf (by assumption); omega) | (unfold qo; omega)) ?_ | simp (disch := omega) only [qd] | simp (disch := omega) only [qn]) <;> (try simp only [go_sem, ↓reduceIte, Nat.reduceEqDiff, Nat.reduceAdd, Nat.reduceSub, Nat.reduceMul, Nat.reduceLT, Nat.reduceLeDiff, reduceCtorEq, Int.reduceToNat])))
  · rw [qw5 (by assumption)]
  · rw [q0z (by assumption) (by assumption)]
  · rw [qwz (by assumption) (by assumption)]
theorem qbo7 (hk : c.ok) (h : Q (curE c :: L) (.val (.tup [.int .i64 (qek c).1, .int .i64 (qek c).2]))) : VApp Try.prog (curE c :: L) (.fn 23 [] []) [.ptr 0 0] Q := qbv (qry c hk) (q7 _ _) (q7 _ _) rfl rfl fun _ => h
end
set_option maxRecDepth 4000

def refC (c : K) : AV := .agg [.sl 4 (qde (c.l.drop c.at')), .int .i64 0, .int .i64 c.ep, .int .i64 0, .str [], .int .i64 c.nest, .int .i64 c.err, .int .i64 c.pos]
attribute [go_sem] refC
/-- The words ahead of the first end. -/
def qfs : List T → List T
  | [] => []
  | t :: r => if t.kind = 0 then [] else t :: qfs r
def endT : List T → Int
  | [] => 0
  | t :: r => if t.kind = 0 then t.pos else endT r
def newK (l : List T) : K := ⟨qfs l, endT l, 0, 0, 0, 0⟩
theorem qix : ∀ l : List T, (qfs l).length ≤ l.length
  | [] => Nat.le_refl _
  | t :: r => by
    rw [qfs]
    split
    · exact Nat.zero_le _
    · have := qix r; simp only [List.length_cons]; omega
theorem qxx {l : List T} {i : Nat} (h1 : ∀ t ∈ l.take i, t.kind ≠ 0) (h : i < l.length) (h2 : (l.getD i T0).kind = 0) : qfs l = l.take i ∧ endT l = (l.getD i T0).pos := by
  induction l generalizing i with
  | nil => simp at h
  | cons t r ih =>
    cases i with
    | zero => simp only [List.getD_cons_zero] at h2 ⊢; rw [qfs, endT, if_pos h2, if_pos h2]; exact ⟨rfl, rfl⟩
    | succ i =>
      have ht := h1 t (by simp)
      obtain ⟨g1, g2⟩ := ih (fun u hu => h1 u (List.mem_cons_of_mem t hu)) (by simpa using h) (by simpa using h2)
      rw [qfs, endT, if_neg ht, if_neg ht, g1, g2]
      exact ⟨rfl, rfl⟩
theorem qyk {l : List T} (h1 : ∀ t ∈ l, t.kind ≠ 0) : qfs l = l ∧ endT l = 0 := by
  induction l with
  | nil => exact ⟨rfl, rfl⟩
  | cons t r ih =>
    obtain ⟨g1, g2⟩ := ih fun u hu => h1 u (by simp [hu])
    rw [qfs, endT, if_neg (h1 t (by simp)), if_neg (h1 t (by simp)), g1, g2]
    exact ⟨rfl, rfl⟩
theorem qig {a : List T} {i : Nat} (h : i < a.length) {p : T → Prop} (h1 : ∀ t ∈ a.take i, p t) (h2 : p (a.getD i T0)) : ∀ t ∈ a.take (i + 1), p t := by
  intro t ht
  rw [List.take_add_one, List.getElem?_eq_getElem h] at ht
  rcases List.mem_append.1 ht with ht | ht
  · exact h1 t ht
  · simp only [Option.toList_some, List.mem_singleton] at ht
    subst ht
    rwa [List.getD_eq_getElem?_getD, List.getElem?_eq_getElem h] at h2
theorem qbop (x : Ent) (es : List AV) : co (x :: accE 4 es) (.sl 4) (accV 1 es) = .sl 4 es := by
  cases es with
  | nil => rw [qbh, qmo]
  | cons e es =>
    rw [qbo (by simp), qom, qbp (by simp)]
    simp only [ent, qzz, if_true]
def qu4 (l : List T) (i : Nat) : AF × List Ent :=
  (⟨[(3, .ptr 0 0), (8, .sl 4 (qde l)), (9, .int .i64 l.length), (10, .int .i64 i)], []⟩,
    .blk [accV 1 (qde (l.take i)), .int .i64 0, .int .i64 0, .int .i64 0, .str [], .int .i64 0, .int .i64 0, .int .i64 0, .int .i64 0] :: accE 4 (qde (l.take i)))
theorem qpk {l : List T} (h : l ≠ []) : qde l ≠ [] := by cases l with | nil => exact absurd rfl h | cons _ _ => simp [qde]
theorem qul {l : List T} {i : Nat} (h : i < l.length) : l.take (i + 1) = l.take i ++ [l.getD i T0] := by
  rw [List.take_add_one, List.getElem?_eq_getElem h, List.getD_eq_getElem?_getD, List.getElem?_eq_getElem h]; rfl
theorem capT {n : Nat} (h : n ≤ 1048580) : qo n 40 := by unfold qo; omega
theorem q4m (l : List T) (hl : l.length ≤ 1048577) : VCalls Try.prog 22 [] [.sl 4 (qde l)] fun H' o => H' = [curE (newK l)] ∧ o = .val (.ptr 0 0) := by
  refine qs c0ca 1 (by simp) (by simp) ?_
  have hmx : (1048577 : Nat) ≤ maxLen := by unfold maxLen; omega
  repeat' (first | refine qi ?_ | refine qk ?_ | ((first | refine qm ?_ | refine qcm (by rfl) ?_ | refine q9 ?_ | refine qj ?_ | refine qr ?_ | refine qh ?_ | refine qg ?_ | ((first | refine qe ?_ ?_ | refine qc ?_ ?_) <;> intro hc <;> (try simp only [hc]) <;> (try simp only [qb, qa, decide_eq_true_eq, decide_eq_false_iff_not, Bool.and_eq_true] at hc)) | refine And.intro (by first | assumption | omega | (have := qf (by assumption); omega) | (unfold qo; omega)) ?_ | simp (disch := omega) only [qd] | simp (disch := omega) only [qn]) <;> (try simp only [go_sem, ↓reduceIte, Nat.reduceEqDiff, Nat.reduceAdd, Nat.reduceSub, Nat.reduceMul, Nat.reduceLT, Nat.reduceLeDiff, reduceCtorEq, Int.reduceToNat])))
  refine qcx (S := Nat) (fun i => i ≤ l.length ∧ ∀ t ∈ l.take i, t.kind ≠ 0) (qu4 l) (fun i => l.length - i) ?_ fun i hi => ?_
  · refine qb5 0 [0] ⟨Nat.zero_le _, by simp⟩ rfl (by simp) ?_ ?_ ?_ <;> simp only [qu4, List.take_zero, qog, qbh, qbj] <;> (try simp only [go_sem, ↓reduceIte, Nat.reduceEqDiff, Nat.reduceAdd, Nat.reduceSub, Nat.reduceMul, Nat.reduceLT, Nat.reduceLeDiff, reduceCtorEq, Int.reduceToNat]) <;> (try simp (disch := omega) only [qn])
  · obtain ⟨hi, ha⟩ := hi
    unfold qu4
    by_cases hx : i < l.length ∧ (l.getD i T0).kind ≠ 0
    · have hT : AV.agg [.int .i64 (l.getD i T0).kind, .int .i64 (l.getD i T0).pos, .int .i64 (l.getD i T0).num, .str (l.getD i T0).text] = encT (l.getD i T0) := rfl
      have hts := qul hx.1
      have hne : qde (l.take (i + 1)) ≠ [] := qpk (by rw [hts]; simp)
      have hlen : (l.take (i + 1)).length = i + 1 := by rw [List.length_take]; omega
      by_cases h0 : i = 0
      · subst h0
        simp only [List.take_zero, qog, qbh, qbj]
        repeat' (first | refine qi ?_ | refine qk ?_ | ((first | refine qm ?_ | refine qcm (by rfl) ?_ | refine q9 ?_ | refine qj ?_ | refine qr ?_ | refine qh ?_ | refine qg ?_ | simp (disch := omega) only [qev] | ((first | refine qe ?_ ?_ | refine qc ?_ ?_) <;> intro hc <;> (try simp only [hc]) <;> (try simp only [qb, qa, decide_eq_true_eq, decide_eq_false_iff_not, Bool.and_eq_true] at hc)) | refine And.intro (by first | assumption | omega | (have := qf (by assumption); omega) | (unfold qo; omega)) ?_ | simp (disch := omega) only [qd] | simp (disch := omega) only [qn]) <;> (try simp only [go_sem, ↓reduceIte, Nat.reduceEqDiff, Nat.reduceAdd, Nat.reduceSub, Nat.reduceMul, Nat.reduceLT, Nat.reduceLeDiff, reduceCtorEq, Int.reduceToNat])))
        · exact absurd (by assumption) hx.2
        · refine qb5 1 [0, 2] ⟨⟨by omega, qig (by omega) ha hx.2⟩, by omega⟩ rfl (by simp) ?_ ?_ ?_
          all_goals simp only [qu4, qbo hne, qbp hne, qh0, hlen]
          all_goals (try simp only [Nat.zero_add] at hts)
          all_goals simp only [hts, List.take_zero, List.nil_append]
          all_goals simp only [go_sem, ↓reduceIte, Nat.reduceEqDiff, Nat.reduceAdd, Nat.reduceSub, Nat.reduceMul, Nat.reduceLT, Nat.reduceLeDiff, reduceCtorEq, Int.reduceToNat]
          all_goals first | exact ⟨rfl, rfl⟩ | exact congrArg _ (by decide) | rfl | trace_state
        · omega
      · have hne0 : qde (l.take i) ≠ [] := qpk (by intro e; have := congrArg List.length e; simp only [List.length_take, List.length_nil] at this; omega)
        have hli : (l.take i).length = i := by rw [List.length_take]; omega
        simp only [qbo hne0, qbp hne0, qh0]
        have hat : ∀ ac : List T, ac = l.take i → qde ac ++ [encT (l.getD i T0)] = qde (l.take (i + 1)) := fun ac e => by rw [e, qkf, hts]
        generalize hac : l.take i = ac at *
        have hcap : qo (ac.length + 1) 40 := capT (by omega)
        have hil : (i : Int) < l.length := by omega
        have hkd := hx.2
        repeat' (first | refine qi ?_ | refine qk ?_ | ((first | refine qm ?_ | refine qcm (by rfl) ?_ | refine q9 ?_ | refine qj ?_ | refine qr ?_ | refine qh ?_ | refine qg ?_) <;> (try simp (disch := first | omega | (simp only [List.length_set, List.length_append, List.length_cons, List.length_nil]; done) | (simp only [List.length_set, List.length_append, List.length_cons, List.length_nil]; omega)) only [hil, hkd, qev, ne_eq, go_sem, ↓reduceIte, Nat.reduceEqDiff, Nat.reduceAdd, Nat.reduceSub, Nat.reduceMul, Nat.reduceLT, Nat.reduceLeDiff, reduceCtorEq, Int.reduceToNat])) | ((first | ((first | refine qe ?_ ?_ | refine qc ?_ ?_) <;> intro hc <;> (try simp only [hc]) <;> (try simp only [qb, qa, decide_eq_true_eq, decide_eq_false_iff_not, Bool.and_eq_true] at hc)) | refine And.intro (by first | assumption | omega | (have := qf (by assumption); omega) | (unfold qo; omega)) ?_ | simp (disch := omega) only [qd] | simp (disch := omega) only [qn]) <;> (try simp only [go_sem, ↓reduceIte, Nat.reduceEqDiff, Nat.reduceAdd, Nat.reduceSub, Nat.reduceMul, Nat.reduceLT, Nat.reduceLeDiff, reduceCtorEq, Int.reduceToNat])))
        · refine qb5 (i + 1) [0, 3] ⟨⟨by omega, qig (by omega) (by rw [hac]; exact ha) hx.2⟩, by omega⟩ rfl (by simp) ?_ ?_ ?_
          all_goals simp only [qu4, qbo hne, qbp hne, qh0, hlen]
          all_goals rw [← hat ac rfl]
          all_goals simp only [go_sem, ↓reduceIte, Nat.reduceEqDiff, Nat.reduceAdd, Nat.reduceSub, Nat.reduceMul, Nat.reduceLT, Nat.reduceLeDiff, reduceCtorEq, Int.reduceToNat]
          rw [hli, qkf ac, qln]
          exact ⟨rfl, qh2 _ _, rfl⟩
    · refine qw2 0 0 (.sl 4) rfl ?_
      simp only [List.set_cons_zero, List.getD_cons_zero, qbop]
      repeat' (first | refine qi ?_ | refine qk ?_ | ((first | refine qm ?_ | refine qcm (by rfl) ?_ | refine q9 ?_ | refine qj ?_ | refine qr ?_ | refine qh ?_ | refine qg ?_ | simp (disch := omega) only [qev] | ((first | refine qe ?_ ?_ | refine qc ?_ ?_) <;> intro hc <;> (try simp only [hc]) <;> (try simp only [qb, qa, decide_eq_true_eq, decide_eq_false_iff_not, Bool.and_eq_true] at hc)) | refine And.intro (by first | assumption | omega | (have := qf (by assumption); omega) | (unfold qo; omega)) ?_ | simp (disch := omega) only [qd] | simp (disch := omega) only [qn]) <;> (try simp only [go_sem, ↓reduceIte, Nat.reduceEqDiff, Nat.reduceAdd, Nat.reduceSub, Nat.reduceMul, Nat.reduceLT, Nat.reduceLeDiff, reduceCtorEq, Int.reduceToNat])))
      · obtain ⟨g1, g2⟩ := qxx ha (by omega) (by assumption)
        rw [newK, g1, g2]; rfl
      · exact hx ⟨by omega, by assumption⟩
      · rw [List.take_of_length_le (by omega)] at ha ⊢
        obtain ⟨g1, g2⟩ := qyk ha
        rw [newK, g1, g2]; rfl
end Go.Proofs.Ytfjbmjplnmaclaa
