/- Texts of this proof, joined. -/
import Derived.Test.YtfjbmjplnmaclaaGreatPas
import Derived.Test.YtfjbmjplnmaclaaGreatPat

/- the cursor: what it is, what its methods do -/
set_option maxRecDepth 4000
namespace Go.Proofs.YtfjbmjplnmaclaaGreat
open Go Go.RowKit Go.V
set_option linter.unusedVariables false
set_option linter.unusedSimpArgs false

attribute [go_sem] cond_true cond_false
structure K where
 l : List T
 ep : Int
 at' : Nat
 nest : Nat
 err : Int
 pos : Int
def K.ok (c : K) : Prop := c.at' ≤ c.l.length ∧ c.l.length ≤ maxLen
def curE (c : K) : Ent := .blk [.sl 4 (qcv c.l), .int .i64 0, .int .i64 c.ep, .int .i64 0, .str [], .int .i64 c.at', .int .i64 c.nest, .int .i64 c.err, .int .i64 c.pos]
def K.bad (c : K) : Bool := !decide (c.err = 0)
theorem qih {c : K} (h : c.bad = false) : c.err = 0 := by simpa [K.bad] using h
theorem qiz {c : K} (h : c.bad = true) : ¬ c.err = 0 := by simpa [K.bad] using h
def qq (c : K) : T := if c.err = 0 then if c.at' < c.l.length then c.l.getD c.at' T0 else ⟨0, c.ep, 0, []⟩ else T0
def qu (c : K) : K := if c.err = 0 then if c.at' < c.l.length then { c with at' := c.at' + 1 } else c else c
def qj7 (t : T) (s : List UInt8) : Bool := (decide (t.kind = 4) || decide (t.kind = 5)) && decide (t.text = s)
def isK (c : K) (s : List UInt8) : Bool := decide (c.err = 0) && qj7 (qq c) s
def qdg (c : K) (e : Int) : K := if c.err = 0 then { c with err := if e = 0 then 1 else e, pos := (qq c).pos } else c
def qf (c : K) (s : List UInt8) : K × Bool := if isK c s = true then (qu c, true) else (c, false)
def qi (c : K) (s : List UInt8) : K × Bool := if isK c s = true then (qu c, true) else (qdg c 5, false)
def qc (c : K) : K × Bool := if c.err = 0 then if c.nest < 200 then ({ c with nest := c.nest + 1 }, true) else (qdg c 2, false) else (c, false)
def qcj (c : K) : K := if c.err = 0 then if 0 < c.nest then { c with nest := c.nest - 1 } else c else c
def qkh (c : K) : Int × Int := if c.err = 0 then if c.at' < c.l.length then ((c.l.getD c.at' T0).pos, 5) else (c.ep, 0) else (c.pos, c.err)

theorem qbi (k : Nat) (c : K) : (curE c).bd k = true := by
 simp only [curE, Ent.bd, AV.bds, AV.bd, qil, Bool.and_true]
theorem qc9 (σ : Nat → Nat) (c : K) : (curE c).ren σ = curE c := Ent.ren_same (m := 0) (fun i hi => by omega) _ (qbi 0 c)
attribute [go_sem] curE
def qce (P : Program) (f : FuncId) (e e' : Ent) (args : List AV) (r : AV) : Prop := VCalls P f [e] args fun H' o => H' = [e'] ∧ o = .val r
section
variable {P : Program} {f : FuncId} {e e' : Ent} {L : List Ent} {args : List AV} {r : AV} {Q : List Ent → VO → Prop}
theorem qb9 (h : qce P f e e' args r) (hb : e.bd 1 = true) (hb' : e'.bd 1 = true) (ha : AV.bds 1 args = true) (hr : r.bd 1 = true) (hq : r.wf → Q (e' :: L) (.val r)) : VApp P (e :: L) (.fn f [] []) args Q :=
 qcd (first := []) (caps := []) (by
  simp only [List.nil_append, List.append_nil]
  refine qdk (H0 := [e]) (L := L) (h.mono' (Q' := fun H' o => (H' = [e'] ∧ o = .val r) ∧ r.wf) fun H' o hw ho => ⟨ho, by have := ho.2; subst this; exact hw⟩) (by simp [hb]) ha ?_
  rintro H1 o ⟨⟨rfl, rfl⟩, hw⟩
  exact ⟨rfl, by simp [hb'], hr, hq hw⟩)
theorem qba2 (h : qce P f e e args r) (hb : e.bd 1 = true) (ha : AV.bds 1 args = true) (hr : r.bd 1 = true) {Kk : Md → AV → List Ent → Prop} (hq : r.wf → Kk .here r (e :: L)) (hw : r.wf) : DApp P (e :: L) (.fn f [] []) args Kk :=
 .inl ⟨r, qb9 h hb hb ha hr fun _ => ⟨rfl, rfl⟩, hq hw⟩
theorem qcku (h : qce P f e e' args r) (hb : e.bd 1 = true) (hb' : e'.bd 1 = true) (ha : AV.bds 1 args = true) (hr : r.bd 1 = true) (hn : e ≠ .dead) {Kk : Md → AV → List Ent → Prop} (hq : Kk (.meth 0 e e') r (e' :: L)) : DApp P (e :: L) (.fn f [] []) args Kk :=
 .inr (.inr ⟨r, 0, e, e', ⟨hn, rfl, fun H₀ h0 => by
  cases H₀ with
  | nil => exact absurd h0.symm hn
  | cons x L' =>
    cases (show x = e from h0)
    exact qb9 h hb hb' ha hr fun _ => ⟨rfl, rfl⟩⟩, hq⟩)
end

theorem qs9 (c : K) : qce Tryz.prog 39 (curE c) (curE c) [.ptr 0 0] (.bool c.bad) := by
 refine qp c0cr 1 (by simp) (by simp) ?_
 unfold K.bad
 repeat' (first | refine vs_ ?_ | ((first | refine vr_ ?_ | (refine cs_ ?_ ?_ <;> intro hc) | refine cj_ ?_ | fail) <;> (try refine ev_ ?_)) | with_reducible exact ti_)
section
variable {c : K} {L : List Ent} {Q : List Ent → VO → Prop} {Kk : Md → AV → List Ent → Prop}
theorem qik (h : Q (curE c :: L) (.val (.bool c.bad))) : VApp Tryz.prog (curE c :: L) (.fn 39 [] []) [.ptr 0 0] Q := qb9 (qs9 c) (qbi _ _) (qbi _ _) rfl rfl fun _ => h
theorem qbcp (h : Kk .here (.bool c.bad) (curE c :: L)) : DApp Tryz.prog (curE c :: L) (.fn 39 [] []) [.ptr 0 0] Kk := qba2 (qs9 c) (qbi _ _) rfl rfl (fun _ => h) trivial
end
section
variable {c : K}
theorem qga (h : ¬ c.err = 0) : qq c = T0 := if_neg h
theorem qny (h : c.err = 0) (h2 : (c.at' : Int) < c.l.length) : qq c = c.l.getD c.at' T0 := by rw [qq, if_pos h, if_pos (by omega)]
theorem qrv (h : c.err = 0) (h2 : ¬ (c.at' : Int) < c.l.length) : qq c = ⟨0, c.ep, 0, []⟩ := by rw [qq, if_pos h, if_neg (by omega)]
theorem qxx (h : ¬ c.err = 0) : qu c = c := if_neg h
theorem qv0 (h : c.err = 0) (h2 : (c.at' : Int) < c.l.length) : qu c = { c with at' := c.at' + 1 } := by rw [qu, if_pos h, if_pos (by omega)]
theorem qxk (h : c.err = 0) (h2 : ¬ (c.at' : Int) < c.l.length) : qu c = c := by rw [qu, if_pos h, if_neg (by omega)]
theorem qfj {e : Int} (h : ¬ c.err = 0) : qdg c e = c := if_neg h
theorem q9s (h : c.err = 0) : qdg c 0 = { c with err := 1, pos := (qq c).pos } := by rw [qdg, if_pos h, if_pos rfl]
theorem q69 {e : Int} (h : c.err = 0) (he : ¬ e = 0) : qdg c e = { c with err := e, pos := (qq c).pos } := by rw [qdg, if_pos h, if_neg he]
end
section
variable {c : K} {x : List UInt8}
theorem q88 (h : isK c x = true) : qf c x = (qu c, true) := if_pos h
theorem qrf (h : isK c x = false) : qf c x = (c, false) := by rw [qf, h]; rfl
theorem q85 (h : (qf c x).2 = true) : qi c x = ((qf c x).1, true) := by
 unfold qf qi at *
 split at h
 ·rename_i h1; rw [if_pos h1, if_pos h1]
 ·cases h
theorem qbaz (h : (qf c x).2 = false) : qi c x = (qdg (qf c x).1 5, false) := by
 unfold qf qi at *
 split at h
 ·cases h
 ·rename_i h1; rw [if_neg h1, if_neg h1]
theorem qi9 (h : ¬ c.err = 0) : qc c = (c, false) := if_neg h
theorem qxp (h : c.err = 0) (h2 : ¬ (200 : Int) ≤ c.nest) : qc c = ({ c with nest := c.nest + 1 }, true) := by rw [qc, if_pos h, if_pos (by omega)]
theorem qrl (h : c.err = 0) (h2 : (200 : Int) ≤ c.nest) : qc c = (qdg c 2, false) := by rw [qc, if_pos h, if_neg (by omega)]
theorem quc (h : ¬ c.err = 0) : qcj c = c := if_neg h
theorem qy3 (h : c.err = 0) (h2 : (0 : Int) < c.nest) : qcj c = { c with nest := c.nest - 1 } := by rw [qcj, if_pos h, if_pos (by omega)]
theorem q2s (h : c.err = 0) (h2 : ¬ (0 : Int) < c.nest) : qcj c = c := by rw [qcj, if_pos h, if_neg (by omega)]
theorem qnl (h : ¬ c.err = 0) : qkh c = (c.pos, c.err) := if_neg h
theorem qwk (h : c.err = 0) (h2 : (c.at' : Int) < c.l.length) : qkh c = ((c.l.getD c.at' T0).pos, 5) := by rw [qkh, if_pos h, if_pos (by omega)]
theorem qql (h : c.err = 0) (h2 : ¬ (c.at' : Int) < c.l.length) : qkh c = (c.ep, 0) := by rw [qkh, if_pos h, if_neg (by omega)]
end
theorem qbc0 (c : K) : qce Tryz.prog 19 (curE c) (curE c) [.ptr 0 0] (encT (qq c)) := by
 refine qp c0cs 1 (by simp) (by simp) ?_
 repeat' (first | refine vs_ ?_ | ((first | refine vr_ ?_ | refine qik ?_ | simp (disch := omega) only [qd0] | (refine cs_ ?_ ?_ <;> intro hc) | refine cj_ ?_ | simp (disch := omega) only [qh, qs]) <;> (try refine ev_ ?_)) | with_reducible exact ti_)
 ·rw [qga (qiz (by assumption))]; rfl
 ·rw [qny (qih (by assumption)) (by assumption)]
 ·rw [qrv (qih (by assumption)) (by assumption)]; rfl
section
variable {c : K} {L : List Ent} {Q : List Ent → VO → Prop} {Kk : Md → AV → List Ent → Prop}
theorem qb6 (h : Q (curE c :: L) (.val (encT (qq c)))) : VApp Tryz.prog (curE c :: L) (.fn 19 [] []) [.ptr 0 0] Q := qb9 (qbc0 c) (qbi _ _) (qbi _ _) rfl rfl fun _ => h
end
def qd2 (t : T) (ls : List (List UInt8)) : Bool := (decide (t.kind = 4) || decide (t.kind = 5)) && ls.contains t.text
theorem q89 (t : T) (ls : List (List UInt8)) : qz Tryz.prog 102 [encT t, .sl 1 (ls.map AV.str)] (.bool (qd2 t ls)) := by
 refine qj c0ct (by simp) (by simp only [go_sem]) rfl fun hw => ?_
 have h1 : ls.length ≤ maxLen := by have := hw.2.1.1; rwa [q1s] at this
 have loop : ∀ (Q : VE → AF → List Ent → Prop) (tm : List (Nat × AV)) (H : List Ent), qd2 t ls = ls.contains t.text → H = [.blk [.int .i64 t.kind, .int .i64 t.pos, .int .i64 t.num, .str t.text]] →
  (get tm 2 = .ptr 0 0 ∧ get tm 15 = .sl 1 (ls.map AV.str) ∧ get tm 16 = .int .i64 ls.length ∧ get tm 17 = .int .i64 0) →
  Q = blq 0 (sq Tryz.prog none 26 0 (k0ct_r11.seq IC.ret) (retq 0 [(RV.t 4, Co.id)] fun H' o => o = VO.val (AV.bool (qd2 t ls)))) →
  VI Tryz.prog none 26 0 k0ct_l4.loop Q ⟨tm, []⟩ H := by
  rintro Q tm H hwd rfl ⟨h2, h15, h16, h17⟩ rfl
  rw [hwd]
  refine qbm (S := Nat) (fun i => i ≤ ls.length ∧ ls.contains t.text = (ls.drop i).contains t.text) (fun i => (⟨[(2, .ptr 0 0), (15, .sl 1 (ls.map AV.str)), (16, .int .i64 ls.length), (17, .int .i64 i)], []⟩, [.blk [.int .i64 t.kind, .int .i64 t.pos, .int .i64 t.num, .str t.text]])) (fun i => ls.length - i) ?_ fun i hi => ?_
  ·refine q8 0 [0] ⟨Nat.zero_le _, rfl⟩ rfl (by simp) ?_ ?_ ?_ <;> (try refine ev_ ?_) <;> (try with_reducible exact ti_) <;> (try simp (disch := omega) only [qs, and_true, true_and])
   exact ⟨h2, h15, h16, h17⟩
  ·obtain ⟨hi, ha⟩ := hi
   repeat' (first | refine vs_ ?_ | ((first | refine vr_ ?_ | simp (disch := omega) only [qzk] | (refine cs_ ?_ ?_ <;> intro hc) | refine cj_ ?_ | simp (disch := omega) only [qh, qs]) <;> (try refine ev_ ?_)) | with_reducible exact ti_)
   ·rw [ha, qrc (i := i) (by omega), List.contains_cons, hc]; simp
   ·refine q8 (i + 1) [0] ⟨⟨by omega, ?_⟩, by omega⟩ rfl (by simp) ?_ ?_ ?_ <;> (try refine ev_ ?_) <;> (try with_reducible exact ti_) <;> (try simp (disch := omega) only [qs, and_true, true_and])
    rw [ha, qrc (i := i) (by omega), List.contains_cons, beq_eq_false_iff_ne.2 hc, Bool.false_or]
   ·rw [ha, List.drop_of_length_le (by omega)]; rfl
 repeat' (first | refine vs_ ?_ | ((first | refine vr_ ?_ | (refine cs_ ?_ ?_ <;> intro hc) | refine cj_ ?_ | simp (disch := omega) only [qh, qs]) <;> (try refine ev_ ?_)) | with_reducible exact ti_)
 ·rw [show qd2 t ls = false by simp [qd2, *]]
 ·exact loop _ _ _ (by simp [qd2, *]) rfl ⟨rfl, rfl, rfl, rfl⟩ rfl
 ·exact loop _ _ _ (by simp [qd2, *]) rfl ⟨rfl, rfl, rfl, rfl⟩ rfl
theorem qbh3 (t : T) (x : List UInt8) : qd2 t [x] = qj7 t x := by
 unfold qd2 qj7
 congr 1
 by_cases h : t.text = x
 ·simp [h]
 ·simp [h]
theorem q1h (t : T) (x : List UInt8) : qz Tryz.prog 102 [encT t, .sl 1 [.str x]] (.bool (qj7 t x)) := by
 rw [← qbh3]; exact q89 t [x]
theorem qbj6 (c : K) (hk : c.ok) : qce Tryz.prog 60 (curE c) (curE (qu c)) [.ptr 0 0] (encT (qq c)) := by
 refine qp c0cu 1 (by simp) (by simp) ?_
 have h1 := hk.1
 have h2 := hk.2
 repeat' (first | refine vs_ ?_ | ((first | refine vr_ ?_ | refine qik ?_ | refine qbcp ?_ | refine qb6 ?_ | simp (disch := omega) only [qs] | (refine cs_ ?_ ?_ <;> intro hc) | refine cj_ ?_ | simp (disch := omega) only [qh, qs]) <;> (try refine ev_ ?_)) | with_reducible exact ti_)
 ·rw [qv0 (qih (by assumption)) (by assumption)]
 ·rw [qxk (qih (by assumption)) (by assumption)]
 ·rw [qxx (qiz (by assumption))]
section
variable {c : K} {L : List Ent} {Q : List Ent → VO → Prop} {Kk : Md → AV → List Ent → Prop} {x : List UInt8} {e : Int}
theorem qlg (hk : c.ok) (h : Q (curE (qu c) :: L) (.val (encT (qq c)))) : VApp Tryz.prog (curE c :: L) (.fn 60 [] []) [.ptr 0 0] Q := qb9 (qbj6 c hk) (qbi _ _) (qbi _ _) rfl rfl fun _ => h
theorem qchd (c : K) (x : List UInt8) : qce Tryz.prog 59 (curE c) (curE c) [.ptr 0 0, .str x] (.bool (isK c x)) := by
 refine qp c0cv 1 (by simp) (by simp) ?_
 repeat' (first | refine vs_ ?_ | ((first | refine vr_ ?_ | refine qik ?_ | refine qb6 ?_ | refine qa (q1h _ _) fun _ => ?_ | (refine cs_ ?_ ?_ <;> intro hc) | refine cj_ ?_ | fail) <;> (try refine ev_ ?_)) | with_reducible exact ti_)
 ·rw [isK, decide_eq_true (qih (by assumption))]; rfl
 ·rw [isK, decide_eq_false (qiz (by assumption))]; rfl
theorem a_Is (h : Q (curE c :: L) (.val (.bool (isK c x)))) : VApp Tryz.prog (curE c :: L) (.fn 59 [] []) [.ptr 0 0, .str x] Q := qb9 (qchd c x) (qbi _ _) (qbi _ _) rfl rfl fun _ => h
theorem q3c (c : K) (e : Int) : qce Tryz.prog 69 (curE c) (curE (qdg c e)) [.ptr 0 0, .int .i64 e] (.bool false) := by
 refine qp c0cw 1 (by simp) (by simp) ?_
 repeat' (first | refine vs_ ?_ | ((first | refine vr_ ?_ | refine qik ?_ | refine qb6 ?_ | (refine cs_ ?_ ?_ <;> intro hc) | refine cj_ ?_ | fail) <;> (try refine ev_ ?_)) | with_reducible exact ti_)
 ·subst hc; rw [q9s (qih (by assumption))]
 ·rw [q69 (qih (by assumption)) (by assumption)]
 ·rw [qfj (qiz (by assumption))]
theorem qup (h : Q (curE (qdg c e) :: L) (.val (.bool false))) : VApp Tryz.prog (curE c :: L) (.fn 69 [] []) [.ptr 0 0, .int .i64 e] Q := qb9 (q3c c e) (qbi _ _) (qbi _ _) rfl rfl fun _ => h
theorem qg7 {Kk : Md → AV → List Ent → Prop} (h : Kk (.meth 0 (curE c) (curE (qdg c e))) (.bool false) (curE (qdg c e) :: L)) : DApp Tryz.prog (curE c :: L) (.fn 69 [] []) [.ptr 0 0, .int .i64 e] Kk := qcku (q3c c e) (qbi _ _) (qbi _ _) rfl rfl (by simp [curE]) h
theorem qbkw (c : K) (hk : c.ok) (x : List UInt8) : qce Tryz.prog 35 (curE c) (curE (qf c x).1) [.ptr 0 0, .str x] (.bool (qf c x).2) := by
 refine qp c0cx 1 (by simp) (by simp) ?_
 repeat' (first | refine vs_ ?_ | ((first | refine vr_ ?_ | refine a_Is ?_ | refine qlg hk ?_ | (refine cs_ ?_ ?_ <;> intro hc) | refine cj_ ?_ | fail) <;> (try refine ev_ ?_)) | with_reducible exact ti_)
 ·rw [qrf (by assumption)]; exact ⟨rfl, rfl⟩
 ·rw [q88 (by assumption)]; exact ⟨rfl, rfl⟩
theorem qet (hk : c.ok) (h : Q (curE (qf c x).1 :: L) (.val (.bool (qf c x).2))) : VApp Tryz.prog (curE c :: L) (.fn 35 [] []) [.ptr 0 0, .str x] Q := qb9 (qbkw c hk x) (qbi _ _) (qbi _ _) rfl rfl fun _ => h
theorem qbii (c : K) (hk : c.ok) (x : List UInt8) : qce Tryz.prog 65 (curE c) (curE (qi c x).1) [.ptr 0 0, .str x] (.bool (qi c x).2) := by
 refine qp c0cy 1 (by simp) (by simp) ?_
 repeat' (first | refine vs_ ?_ | ((first | refine vr_ ?_ | refine qet hk ?_ | refine qup ?_ | (refine cs_ ?_ ?_ <;> intro hc) | refine cj_ ?_ | fail) <;> (try refine ev_ ?_)) | with_reducible exact ti_)
 ·rw [q85 (by assumption)]; exact ⟨rfl, rfl⟩
 ·rw [qbaz (by assumption)]; exact ⟨rfl, rfl⟩
theorem qch (hk : c.ok) (h : Q (curE (qi c x).1 :: L) (.val (.bool (qi c x).2))) : VApp Tryz.prog (curE c :: L) (.fn 65 [] []) [.ptr 0 0, .str x] Q := qb9 (qbii c hk x) (qbi _ _) (qbi _ _) rfl rfl fun _ => h
theorem q9h (c : K) : qce Tryz.prog 103 (curE c) (curE (qc c).1) [.ptr 0 0] (.bool (qc c).2) := by
 refine qp c0cz 1 (by simp) (by simp) ?_
 repeat' (first | refine vs_ ?_ | ((first | refine vr_ ?_ | refine qik ?_ | refine qup ?_ | (refine cs_ ?_ ?_ <;> intro hc) | refine cj_ ?_ | simp (disch := omega) only [qh, qs]) <;> (try refine ev_ ?_)) | with_reducible exact ti_)
 ·rw [qi9 (qiz (by assumption)), qfj (qiz (by assumption))]; exact ⟨rfl, rfl⟩
 ·rw [qrl (qih (by assumption)) (by assumption)]; exact ⟨rfl, rfl⟩
 ·rw [qxp (qih (by assumption)) (by assumption), qe9 (by omega) (by unfold maxLen; omega)]; exact ⟨rfl, rfl⟩
theorem qiv (h : Q (curE (qc c).1 :: L) (.val (.bool (qc c).2))) : VApp Tryz.prog (curE c :: L) (.fn 103 [] []) [.ptr 0 0] Q := qb9 (q9h c) (qbi _ _) (qbi _ _) rfl rfl fun _ => h
theorem q9c (c : K) (hn : c.nest ≤ 200) : qce Tryz.prog 105 (curE c) (curE (qcj c)) [.ptr 0 0] (.tup []) := by
 refine qp c0da 1 (by simp) (by simp) ?_
 repeat' (first | refine vs_ ?_ | ((first | refine vr_ ?_ | refine qik ?_ | (refine cs_ ?_ ?_ <;> intro hc) | refine cj_ ?_ | fail) <;> (try refine ev_ ?_)) | with_reducible exact ti_)
 ·rw [qy3 (qih (by assumption)) (by assumption), qe9 (by omega) (by unfold maxLen; omega)]
  simp only [List.cons.injEq, Ent.blk.injEq, AV.int.injEq, true_and, and_true]; omega
 ·rw [q2s (qih (by assumption)) (by assumption)]
 ·rw [quc (qiz (by assumption))]
theorem qgk (hn : c.nest ≤ 200) (h : Q (curE (qcj c) :: L) (.val (.tup []))) : VApp Tryz.prog (curE c :: L) (.fn 105 [] []) [.ptr 0 0] Q := qb9 (q9c c hn) (qbi _ _) (qbi _ _) rfl rfl fun _ => h
theorem q3b (c : K) (hk : c.ok) : qce Tryz.prog 32 (curE c) (curE c) [.ptr 0 0] (.tup [.int .i64 (qkh c).1, .int .i64 (qkh c).2]) := by
 refine qp c0db 1 (by simp) (by simp) ?_
 repeat' (first | refine vs_ ?_ | ((first | refine vr_ ?_ | simp (disch := omega) only [qd0] | (refine cs_ ?_ ?_ <;> intro hc) | refine cj_ ?_ | simp (disch := omega) only [qh, qs]) <;> (try refine ev_ ?_)) | with_reducible exact ti_)
 ·rw [qnl (by assumption)]
 ·rw [qwk (by assumption) (by assumption)]
 ·rw [qql (by assumption) (by assumption)]
theorem qciw (hk : c.ok) (h : Q (curE c :: L) (.val (.tup [.int .i64 (qkh c).1, .int .i64 (qkh c).2]))) : VApp Tryz.prog (curE c :: L) (.fn 32 [] []) [.ptr 0 0] Q := qb9 (q3b c hk) (qbi _ _) (qbi _ _) rfl rfl fun _ => h
end
set_option maxRecDepth 4000

theorem q56 {a : List T} {r : List AV} (h : AV.wfs (.sl 4 (qcv a) :: r)) : a.length ≤ maxLen := by
 have := h.1.1; rwa [qf7] at this
def refC (c : K) : AV := .agg [.sl 4 (qcv (c.l.drop c.at')), .int .i64 0, .int .i64 c.ep, .int .i64 0, .str [], .int .i64 c.nest, .int .i64 c.err, .int .i64 c.pos]
attribute [go_sem] refC
theorem qbfh {l : List T} {i : Nat} : (l.drop i).length = l.length - i := List.length_drop
theorem qbml {l : List T} {i : Nat} (h : i < l.length) : (l.drop i).getD 0 T0 = l.getD i T0 := by rw [qbg5 h]; rfl
section
variable {c : K}
theorem qceo (h : ¬ ((c.l.drop c.at').length : Int) = 0) : (c.at' : Int) < c.l.length := by rw [qbfh] at h; omega
theorem qcj6 (h : ((c.l.drop c.at').length : Int) = 0) : ¬ (c.at' : Int) < c.l.length := by rw [qbfh] at h; omega
theorem q58 (h : (0 : Int) < (c.l.drop c.at').length) : (c.at' : Int) < c.l.length := by rw [qbfh] at h; omega
theorem q84 (h : ¬ (0 : Int) < (c.l.drop c.at').length) : ¬ (c.at' : Int) < c.l.length := by rw [qbfh] at h; omega
end
theorem q4s {c : K} {x : List UInt8} (h : (qf c x).2 = false) : (qf c x).1 = c := by
 unfold qf at *
 split at h
 ·cases h
 ·rename_i h1; rw [if_neg h1]
theorem ql (c : K) : qz Tryz.prog 42 [refC c] (encT (qq c)) := by
 refine qj c0cf (by simp) (by simp only [go_sem]) rfl fun hw => ?_
 repeat' (first | refine vs_ ?_ | ((first | refine vr_ ?_ | simp (disch := omega) only [qd0] | (refine cs_ ?_ ?_ <;> intro hc) | refine cj_ ?_ | simp (disch := omega) only [qh, qs]) <;> (try refine ev_ ?_)) | with_reducible exact ti_)
 ·rw [qga (by assumption)]; rfl
 ·rw [qrv (by assumption) (qcj6 (by assumption))]; rfl
 ·rw [qny (by assumption) (qceo (by assumption)), qbml (by have := qceo (c := c) (by assumption); omega)]
theorem qc3 (c : K) : qz Tryz.prog 47 [refC c] (.tup [refC (qu c), encT (qq c)]) := by
 refine qj c0cg (by simp) (by simp only [go_sem]) (by simp only [go_sem]) fun hw => ?_
 repeat' (first | refine vs_ ?_ | ((first | refine vr_ ?_ | refine qa (ql _) fun _ => ?_ | refine qb (ql _) ?_ | (refine cs_ ?_ ?_ <;> intro hc) | refine cj_ ?_ | fail) <;> (try refine ev_ ?_)) | with_reducible exact ti_)
 ·rw [qv0 (by assumption) (q58 (by assumption)), List.drop_drop]
 ·rw [qxk (by assumption) (q84 (by assumption))]
 ·rw [qxx (by assumption)]
theorem qut (t : T) (x : List UInt8) : qz Tryz.prog 90 [encT t, .str x] (.bool (qj7 t x)) := by
 refine qj c0ch (by simp) (by simp only [go_sem]) rfl fun hw => ?_
 repeat' (first | refine vs_ ?_ | ((first | refine vr_ ?_ | (refine cs_ ?_ ?_ <;> intro hc) | refine cj_ ?_ | fail) <;> (try refine ev_ ?_)) | with_reducible exact ti_)
 all_goals simp_all [qj7]
theorem qcw (c : K) (x : List UInt8) : qz Tryz.prog 46 [refC c, .str x] (.bool (isK c x)) := by
 refine qj c0ci (by simp) (by simp only [go_sem]) rfl fun hw => ?_
 repeat' (first | refine vs_ ?_ | ((first | refine vr_ ?_ | refine qa (ql c) fun _ => ?_ | refine qa (qut _ _) fun _ => ?_ | (refine cs_ ?_ ?_ <;> intro hc) | refine cj_ ?_ | fail) <;> (try refine ev_ ?_)) | with_reducible exact ti_)
 all_goals simp_all [isK]
theorem qw (c : K) (x : List UInt8) : qz Tryz.prog 23 [refC c, .str x] (.tup [refC (qf c x).1, .bool (qf c x).2]) := by
 refine qj c0cj (by simp) (by simp only [go_sem]) (by simp only [go_sem]) fun hw => ?_
 repeat' (first | refine vs_ ?_ | ((first | refine vr_ ?_ | refine qa (qcw _ _) fun _ => ?_ | refine qa (qc3 _) fun _ => ?_ | (refine cs_ ?_ ?_ <;> intro hc) | refine cj_ ?_ | fail) <;> (try refine ev_ ?_)) | with_reducible exact ti_)
 ·rw [qrf (by assumption)]
 ·rw [q88 (by assumption)]
theorem qcr (c : K) (e : Int) : qz Tryz.prog 117 [refC c, .int .i64 e] (refC (qdg c e)) := by
 refine qj c0ck (by simp) (by simp only [go_sem]) (by simp only [go_sem]) fun hw => ?_
 repeat' (first | refine vs_ ?_ | ((first | refine vr_ ?_ | refine qa (ql c) fun _ => ?_ | (refine cs_ ?_ ?_ <;> intro hc) | refine cj_ ?_ | fail) <;> (try refine ev_ ?_)) | with_reducible exact ti_)
 ·rw [qfj (by assumption)]
 ·subst hc; rw [q9s (by assumption)]
 ·rw [q69 (by assumption) (by assumption)]
theorem qba (c : K) (x : List UInt8) : qz Tryz.prog 82 [refC c, .str x] (.tup [refC (qi c x).1, .bool (qi c x).2]) := by
 refine qj c0cl (by simp) (by simp only [go_sem]) (by simp only [go_sem]) fun hw => ?_
 repeat' (first | refine vs_ ?_ | ((first | refine vr_ ?_ | refine qa (qw _ _) fun _ => ?_ | refine qa (qcr _ _) fun _ => ?_ | (refine cs_ ?_ ?_ <;> intro hc) | refine cj_ ?_ | fail) <;> (try refine ev_ ?_)) | with_reducible exact ti_)
 ·rw [qbaz (by assumption), q4s (by assumption)]
 ·rw [q85 (by assumption)]
theorem qcp (c : K) : qz Tryz.prog 118 [refC c] (.tup [refC (qc c).1, .bool (qc c).2]) := by
 refine qj c0cm (by simp) (by simp only [go_sem]) (by simp only [go_sem]) fun hw => ?_
 repeat' (first | refine vs_ ?_ | ((first | refine vr_ ?_ | refine qa (qcr c _) fun _ => ?_ | (refine cs_ ?_ ?_ <;> intro hc) | refine cj_ ?_ | simp (disch := omega) only [qh, qs]) <;> (try refine ev_ ?_)) | with_reducible exact ti_)
 ·rw [qi9 (by assumption)]
 ·rw [qrl (by assumption) (by assumption)]
 ·rw [qxp (by assumption) (by assumption), qe9 (by omega) (by unfold maxLen; omega)]; rfl
theorem qb4 (c : K) (hn : c.nest ≤ 200) : qz Tryz.prog 120 [refC c] (refC (qcj c)) := by
 refine qj c0cn (by simp) (by simp only [go_sem]) (by simp only [go_sem]) fun hw => ?_
 repeat' (first | refine vs_ ?_ | ((first | refine vr_ ?_ | (refine cs_ ?_ ?_ <;> intro hc) | refine cj_ ?_ | fail) <;> (try refine ev_ ?_)) | with_reducible exact ti_)
 ·rw [qy3 (by assumption) (by assumption), qe9 (by omega) (by unfold maxLen; omega)]
  simp only [VO.val.injEq, AV.agg.injEq, List.cons.injEq, AV.int.injEq, true_and, and_true]; omega
 ·rw [q2s (by assumption) (by assumption)]
 ·rw [quc (by assumption)]
theorem qtp (c : K) : qz Tryz.prog 48 [refC c] (.tup [.int .i64 (qkh c).1, .int .i64 (qkh c).2]) := by
 refine qj c0co (by simp) (by simp only [go_sem]) rfl fun hw => ?_
 repeat' (first | refine vs_ ?_ | ((first | refine vr_ ?_ | simp (disch := omega) only [qd0] | (refine cs_ ?_ ?_ <;> intro hc) | refine cj_ ?_ | simp (disch := omega) only [qh, qs]) <;> (try refine ev_ ?_)) | with_reducible exact ti_)
 ·rw [qnl (by assumption)]
 ·rw [qwk (by assumption) (q58 (by assumption)), qbml (by have := q58 (c := c) (by assumption); omega)]
 ·rw [qql (by assumption) (q84 (by assumption))]
def qhg : List T → List T
 | [] => []
 | t :: r => if t.kind = 0 then [] else t :: qhg r
def endT : List T → Int
 | [] => 0
 | t :: r => if t.kind = 0 then t.pos else endT r
def newK (l : List T) : K := ⟨qhg l, endT l, 0, 0, 0, 0⟩
theorem qlj : ∀ l : List T, (qhg l).length ≤ l.length
 | [] => Nat.le_refl _
 | t :: r => by
   rw [qhg]
   split
   ·exact Nat.zero_le _
   ·have := qlj r; simp only [List.length_cons]; omega
theorem qw9 {l : List T} {i : Nat} (h1 : ∀ t ∈ l.take i, t.kind ≠ 0) (h : i < l.length) (h2 : (l.getD i T0).kind = 0) : qhg l = l.take i ∧ endT l = (l.getD i T0).pos := by
 induction l generalizing i with
 | nil => simp at h
 | cons t r ih =>
   cases i with
   | zero => simp only [List.getD_cons_zero] at h2 ⊢; rw [qhg, endT, if_pos h2, if_pos h2]; exact ⟨rfl, rfl⟩
   | succ i =>
     have ht := h1 t (by simp)
     obtain ⟨g1, g2⟩ := ih (fun u hu => h1 u (List.mem_cons_of_mem t hu)) (by simpa using h) (by simpa using h2)
     rw [qhg, endT, if_neg ht, if_neg ht, g1, g2]
     exact ⟨rfl, rfl⟩
theorem qzq {l : List T} (h1 : ∀ t ∈ l, t.kind ≠ 0) : qhg l = l ∧ endT l = 0 := by
 induction l with
 | nil => exact ⟨rfl, rfl⟩
 | cons t r ih =>
   obtain ⟨g1, g2⟩ := ih fun u hu => h1 u (by simp [hu])
   rw [qhg, endT, if_neg (h1 t (by simp)), if_neg (h1 t (by simp)), g1, g2]
   exact ⟨rfl, rfl⟩
theorem qju {a : List T} {i : Nat} (h : i < a.length) {p : T → Prop} (h1 : ∀ t ∈ a.take i, p t) (h2 : p (a.getD i T0)) : ∀ t ∈ a.take (i + 1), p t := by
 intro t ht
 rw [List.take_add_one, List.getElem?_eq_getElem h] at ht
 rcases List.mem_append.1 ht with ht | ht
 ·exact h1 t ht
 ·simp only [Option.toList_some, List.mem_singleton] at ht
  subst ht
  rwa [List.getD_eq_getElem?_getD, List.getElem?_eq_getElem h] at h2
theorem qbas (l : List T) : qz Tryz.prog 21 [.sl 4 (qcv l)] (refC (newK l)) := by
 refine qj c0cp (by simp) (by simp only [go_sem]) (by simp only [go_sem]) fun hw => ?_
 have h1 := q56 hw
 repeat' (first | refine vs_ ?_ | ((first | refine vr_ ?_ | (refine cs_ ?_ ?_ <;> intro hc) | refine cj_ ?_ | simp (disch := omega) only [qh, qs]) <;> (try refine ev_ ?_)) | with_reducible exact ti_)
 refine qbm (S := Nat) (fun i => i ≤ l.length ∧ ∀ t ∈ l.take i, t.kind ≠ 0) (fun i => (⟨[(0, .sl 4 (qcv l)), (2, .ptr 0 0), (3, .int .i64 i)], []⟩, [.blk [.nils, .int .i64 0, .int .i64 0, .int .i64 0, .str [], .int .i64 0, .int .i64 0, .int .i64 0]])) (fun i => l.length - i) ?_ fun i hi => ?_
 ·refine q8 0 [0] ⟨Nat.zero_le _, by simp⟩ rfl (by simp) ?_ ?_ ?_ <;> (try refine ev_ ?_) <;> (try with_reducible exact ti_) <;> (try simp (disch := omega) only [qs, and_true, true_and])
 ·obtain ⟨hi, ha⟩ := hi
  repeat' (first | refine vs_ ?_ | ((first | refine vr_ ?_ | simp (disch := omega) only [qd0] | (refine cs_ ?_ ?_ <;> intro hc) | refine cj_ ?_ | simp (disch := omega) only [qh, qs]) <;> (try refine ev_ ?_)) | with_reducible exact ti_)
  ·obtain ⟨g1, g2⟩ := qw9 ha (by omega) (by assumption)
   rw [newK, g1, g2]; rfl
  ·refine q8 (i + 1) [0] ⟨⟨by omega, qju (by omega) ha (by assumption)⟩, by omega⟩ rfl (by simp) ?_ ?_ ?_ <;> (try refine ev_ ?_) <;> (try with_reducible exact ti_) <;> (try simp (disch := omega) only [qs, and_true, true_and])
  ·rw [List.take_of_length_le (by omega)] at ha
   obtain ⟨g1, g2⟩ := qzq ha
   rw [newK, g1, g2]; rfl
theorem qcji (x : Ent) (es : List AV) : co (x :: accE 4 es) (.sl 4) (accV 1 es) = .sl 4 es := by
 cases es with
 | nil => rw [qr, quf]
 | cons e es =>
   rw [qbc (by simp), qxj, qbd (by simp)]
   simp only [ent, q90, if_true]
def q78 (l : List T) (i : Nat) : AF × List Ent :=
 (⟨[(3, .ptr 0 0), (8, .sl 4 (qcv l)), (9, .int .i64 l.length), (10, .int .i64 i)], []⟩,
   .blk [accV 1 (qcv (l.take i)), .int .i64 0, .int .i64 0, .int .i64 0, .str [], .int .i64 0, .int .i64 0, .int .i64 0, .int .i64 0] :: accE 4 (qcv (l.take i)))
theorem qnn {l : List T} (h : l ≠ []) : qcv l ≠ [] := by cases l with | nil => exact absurd rfl h | cons _ _ => simp [qcv]
theorem q3x {l : List T} {i : Nat} (h : i < l.length) : l.take (i + 1) = l.take i ++ [l.getD i T0] := by
 rw [List.take_add_one, List.getElem?_eq_getElem h, List.getD_eq_getElem?_getD, List.getElem?_eq_getElem h]; rfl
theorem capT {n : Nat} (h : n ≤ 1048580) : qdp n 40 := by unfold qdp; omega
theorem qbc2 (l : List T) (hl : l.length ≤ 1048577) : VCalls Tryz.prog 31 [] [.sl 4 (qcv l)] fun H' o => H' = [curE (newK l)] ∧ o = .val (.ptr 0 0) := by
 refine qp c0cq 1 (by simp) (by simp) ?_
 have hmx : (1048577 : Nat) ≤ maxLen := by unfold maxLen; omega
 repeat' (first | refine vs_ ?_ | ((first | refine vr_ ?_ | (refine cs_ ?_ ?_ <;> intro hc) | refine cj_ ?_ | simp (disch := omega) only [qh, qs]) <;> (try refine ev_ ?_)) | with_reducible exact ti_)
 refine qbm (S := Nat) (fun i => i ≤ l.length ∧ ∀ t ∈ l.take i, t.kind ≠ 0) (q78 l) (fun i => l.length - i) ?_ fun i hi => ?_
 ·refine q8 0 [0] ⟨Nat.zero_le _, by simp⟩ rfl (by simp) ?_ ?_ ?_ <;> simp only [q78, List.take_zero, qh0, qr, qt] <;> (try refine ev_ ?_) <;> (try with_reducible exact ti_) <;> (try simp (disch := omega) only [qs, and_true, true_and])
 ·obtain ⟨hi, ha⟩ := hi
  unfold q78
  by_cases hx : i < l.length ∧ (l.getD i T0).kind ≠ 0
  ·have hT : AV.agg [.int .i64 (l.getD i T0).kind, .int .i64 (l.getD i T0).pos, .int .i64 (l.getD i T0).num, .str (l.getD i T0).text] = encT (l.getD i T0) := rfl
   have hts := q3x hx.1
   have hne : qcv (l.take (i + 1)) ≠ [] := qnn (by rw [hts]; simp)
   have hlen : (l.take (i + 1)).length = i + 1 := by rw [List.length_take]; omega
   by_cases h0 : i = 0
   ·subst h0
    simp only [List.take_zero, qh0, qr, qt]
    repeat' (first | refine vs_ ?_ | ((first | refine vr_ ?_ | simp (disch := omega) only [qd0] | (refine cs_ ?_ ?_ <;> intro hc) | refine cj_ ?_ | simp (disch := omega) only [qh, qs]) <;> (try refine ev_ ?_)) | with_reducible exact ti_)
    ·exact absurd (by assumption) hx.2
    ·refine q8 1 [0, 2] ⟨⟨by omega, qju (by omega) ha hx.2⟩, by omega⟩ rfl (by simp) ?_ ?_ ?_
     all_goals simp only [q78, qbc hne, qbd hne, qf7, hlen]
     all_goals (try simp only [Nat.zero_add] at hts)
     all_goals simp only [hts, List.take_zero, List.nil_append]
     all_goals (refine ev_ ?_; (try with_reducible exact ti_))
     all_goals first | exact ⟨rfl, rfl⟩ | exact congrArg _ (by decide) | rfl | trace_state
    ·omega
   ·have hne0 : qcv (l.take i) ≠ [] := qnn (by intro e; have := congrArg List.length e; simp only [List.length_take, List.length_nil] at this; omega)
    have hli : (l.take i).length = i := by rw [List.length_take]; omega
    simp only [qbc hne0, qbd hne0, qf7]
    have hat : ∀ ac : List T, ac = l.take i → qcv ac ++ [encT (l.getD i T0)] = qcv (l.take (i + 1)) := fun ac e => by rw [e, qf9, hts]
    generalize hac : l.take i = ac at *
    have hcap : qdp (ac.length + 1) 40 := capT (by omega)
    have hil : (i : Int) < l.length := by omega
    have hkd := hx.2
    repeat' (first | refine vs_ ?_ | ((first | refine vr_ ?_ | fail) <;> (try simp (disch := first | omega | (simp only [List.length_set, List.length_append, List.length_cons, List.length_nil]; done) | (simp only [List.length_set, List.length_append, List.length_cons, List.length_nil]; omega)) only [hil, hkd, qd0, ne_eq, go_sem, ↓reduceIte])) | ((first | (refine cs_ ?_ ?_ <;> intro hc) | refine cj_ ?_ | simp (disch := omega) only [qh, qs]) <;> (try refine ev_ ?_)) | with_reducible exact ti_)
    ·refine q8 (i + 1) [0, 3] ⟨⟨by omega, qju (by omega) (by rw [hac]; exact ha) hx.2⟩, by omega⟩ rfl (by simp) ?_ ?_ ?_
     all_goals simp only [q78, qbc hne, qbd hne, qf7, hlen]
     all_goals rw [← hat ac rfl]
     all_goals (skip <;> (try refine ev_ ?_) <;> (try with_reducible exact ti_) <;> (try simp (disch := omega) only [qs, and_true, true_and]))
     rw [hli, qf9 ac, qku]
     exact ⟨rfl, qil _ _, rfl⟩
  ·refine qvn 0 0 (.sl 4) rfl ?_
   simp only [List.set_cons_zero, List.getD_cons_zero, qcji]
   repeat' (first | refine vs_ ?_ | ((first | refine vr_ ?_ | simp (disch := omega) only [qd0] | (refine cs_ ?_ ?_ <;> intro hc) | refine cj_ ?_ | simp (disch := omega) only [qh, qs]) <;> (try refine ev_ ?_)) | with_reducible exact ti_)
   ·obtain ⟨g1, g2⟩ := qw9 ha (by omega) (by assumption)
    rw [newK, g1, g2]; rfl
   ·exact hx ⟨by omega, by assumption⟩
   ·rw [List.take_of_length_le (by omega)] at ha ⊢
    obtain ⟨g1, g2⟩ := qzq ha
    rw [newK, g1, g2]; rfl
end Go.Proofs.YtfjbmjplnmaclaaGreat
