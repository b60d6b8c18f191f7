/- Texts of this proof, joined. -/
import Derived.Test.YtfjbmjplnmaclaaGreatQas
import Derived.Test.YtfjbmjplnmaclaaGreatQat

/- the cursor: what it is, what its methods do -/
set_option maxRecDepth 4000
namespace Go.Proofs.YtfjbmjplnmaclaaGreat
open Go Go.RowKit Go.V
set_option linter.unusedVariables false
set_option linter.unusedSimpArgs false

attribute [go_sem] cond_true cond_false
structure K where
 l : List T
 ep : Int
 at' : Nat
 nest : Nat
 err : Int
 pos : Int
def K.ok (c : K) : Prop := c.at' ≤ c.l.length ∧ c.l.length ≤ maxLen
def curE (c : K) : Ent := .blk [.sl 4 (qcv c.l), .int .i64 0, .int .i64 c.ep, .int .i64 0, .str [], .int .i64 c.at', .int .i64 c.nest, .int .i64 c.err, .int .i64 c.pos]
def K.bad (c : K) : Bool := !decide (c.err = 0)
theorem qii {c : K} (h : c.bad = false) : c.err = 0 := by simpa [K.bad] using h
theorem qiz {c : K} (h : c.bad = true) : ¬ c.err = 0 := by simpa [K.bad] using h
def qq (c : K) : T := if c.err = 0 then if c.at' < c.l.length then c.l.getD c.at' T0 else ⟨0, c.ep, 0, []⟩ else T0
def qu (c : K) : K := if c.err = 0 then if c.at' < c.l.length then { c with at' := c.at' + 1 } else c else c
def qka (t : T) (s : List UInt8) : Bool := (decide (t.kind = 4) || decide (t.kind = 5)) && decide (t.text = s)
def isK (c : K) (s : List UInt8) : Bool := decide (c.err = 0) && qka (qq c) s
def qdh (c : K) (e : Int) : K := if c.err = 0 then { c with err := if e = 0 then 1 else e, pos := (qq c).pos } else c
def qf (c : K) (s : List UInt8) : K × Bool := if isK c s = true then (qu c, true) else (c, false)
def qi (c : K) (s : List UInt8) : K × Bool := if isK c s = true then (qu c, true) else (qdh c 5, false)
def qc (c : K) : K × Bool := if c.err = 0 then if c.nest < 200 then ({ c with nest := c.nest + 1 }, true) else (qdh c 2, false) else (c, false)
def qcj (c : K) : K := if c.err = 0 then if 0 < c.nest then { c with nest := c.nest - 1 } else c else c
def qki (c : K) : Int × Int := if c.err = 0 then if c.at' < c.l.length then ((c.l.getD c.at' T0).pos, 5) else (c.ep, 0) else (c.pos, c.err)

theorem qbi (k : Nat) (c : K) : (curE c).bd k = true := by
 simp only [curE, Ent.bd, AV.bds, AV.bd, qio, Bool.and_true]
theorem qc9 (σ : Nat → Nat) (c : K) : (curE c).ren σ = curE c := Ent.ren_same (m := 0) (fun i hi => by omega) _ (qbi 0 c)
attribute [go_sem] curE
def qce (P : Program) (f : FuncId) (e e' : Ent) (args : List AV) (r : AV) : Prop := VCalls P f [e] args fun H' o => H' = [e'] ∧ o = .val r
section
variable {P : Program} {f : FuncId} {e e' : Ent} {L : List Ent} {args : List AV} {r : AV} {Q : List Ent → VO → Prop}
theorem qb9 (h : qce P f e e' args r) (hb : e.bd 1 = true) (hb' : e'.bd 1 = true) (ha : AV.bds 1 args = true) (hr : r.bd 1 = true) (hq : r.wf → Q (e' :: L) (.val r)) : VApp P (e :: L) (.fn f [] []) args Q :=
 qcd (first := []) (caps := []) (by
  simp only [List.nil_append, List.append_nil]
  refine qdj (H0 := [e]) (L := L) (h.mono' (Q' := fun H' o => (H' = [e'] ∧ o = .val r) ∧ r.wf) fun H' o hw ho => ⟨ho, by have := ho.2; subst this; exact hw⟩) (by simp [hb]) ha ?_
  rintro H1 o ⟨⟨rfl, rfl⟩, hw⟩
  exact ⟨rfl, by simp [hb'], hr, hq hw⟩)
theorem q9w (h : qce P f e e args r) (hb : e.bd 1 = true) (ha : AV.bds 1 args = true) (hr : r.bd 1 = true) {Kk : Md → AV → List Ent → Prop} (hq : r.wf → Kk .here r (e :: L)) (hw : r.wf) : DApp P (e :: L) (.fn f [] []) args Kk :=
 .inl ⟨r, qb9 h hb hb ha hr fun _ => ⟨rfl, rfl⟩, hq hw⟩
theorem qcg4 (h : qce P f e e' args r) (hb : e.bd 1 = true) (hb' : e'.bd 1 = true) (ha : AV.bds 1 args = true) (hr : r.bd 1 = true) (hn : e ≠ .dead) {Kk : Md → AV → List Ent → Prop} (hq : Kk (.meth 0 e e') r (e' :: L)) : DApp P (e :: L) (.fn f [] []) args Kk :=
 .inr (.inr ⟨r, 0, e, e', ⟨hn, rfl, fun H₀ h0 => by
  cases H₀ with
  | nil => exact absurd h0.symm hn
  | cons x L' =>
    cases (show x = e from h0)
    exact qb9 h hb hb' ha hr fun _ => ⟨rfl, rfl⟩⟩, hq⟩)
end

theorem quq (c : K) : qce Tryz.prog 39 (curE c) (curE c) [.ptr 0 0] (.bool c.bad) := by
 refine qp c0ct 1 (by simp) (by simp) ?_
 unfold K.bad
 repeat' (first | refine vs_ ?_ | ((first | refine vr_ ?_ | (refine cs_ ?_ ?_ <;> intro hc) | refine cj_ ?_ | fail) <;> (try refine ev_ ?_)) | with_reducible exact ti_)
section
variable {c : K} {L : List Ent} {Q : List Ent → VO → Prop} {Kk : Md → AV → List Ent → Prop}
theorem qit (h : Q (curE c :: L) (.val (.bool c.bad))) : VApp Tryz.prog (curE c :: L) (.fn 39 [] []) [.ptr 0 0] Q := qb9 (quq c) (qbi _ _) (qbi _ _) rfl rfl fun _ => h
theorem qbl4 (h : Kk .here (.bool c.bad) (curE c :: L)) : DApp Tryz.prog (curE c :: L) (.fn 39 [] []) [.ptr 0 0] Kk := q9w (quq c) (qbi _ _) rfl rfl (fun _ => h) trivial
end
section
variable {c : K}
theorem qgd (h : ¬ c.err = 0) : qq c = T0 := if_neg h
theorem qm0 (h : c.err = 0) (h2 : (c.at' : Int) < c.l.length) : qq c = c.l.getD c.at' T0 := by rw [qq, if_pos h, if_pos (by omega)]
theorem qq3 (h : c.err = 0) (h2 : ¬ (c.at' : Int) < c.l.length) : qq c = ⟨0, c.ep, 0, []⟩ := by rw [qq, if_pos h, if_neg (by omega)]
theorem qzk (h : ¬ c.err = 0) : qu c = c := if_neg h
theorem qvw (h : c.err = 0) (h2 : (c.at' : Int) < c.l.length) : qu c = { c with at' := c.at' + 1 } := by rw [qu, if_pos h, if_pos (by omega)]
theorem qzx (h : c.err = 0) (h2 : ¬ (c.at' : Int) < c.l.length) : qu c = c := by rw [qu, if_pos h, if_neg (by omega)]
theorem qfd {e : Int} (h : ¬ c.err = 0) : qdh c e = c := if_neg h
theorem qbat (h : c.err = 0) : qdh c 0 = { c with err := 1, pos := (qq c).pos } := by rw [qdh, if_pos h, if_pos rfl]
theorem q7u {e : Int} (h : c.err = 0) (he : ¬ e = 0) : qdh c e = { c with err := e, pos := (qq c).pos } := by rw [qdh, if_pos h, if_neg he]
end
section
variable {c : K} {x : List UInt8}
theorem q7z (h : isK c x = true) : qf c x = (qu c, true) := if_pos h
theorem qsa (h : isK c x = false) : qf c x = (c, false) := by rw [qf, h]; rfl
theorem q9k (h : (qf c x).2 = true) : qi c x = ((qf c x).1, true) := by
 unfold qf qi at *
 split at h
 ·rename_i h1; rw [if_pos h1, if_pos h1]
 ·cases h
theorem qbaz (h : (qf c x).2 = false) : qi c x = (qdh (qf c x).1 5, false) := by
 unfold qf qi at *
 split at h
 ·cases h
 ·rename_i h1; rw [if_neg h1, if_neg h1]
theorem qi6 (h : ¬ c.err = 0) : qc c = (c, false) := if_neg h
theorem qxe (h : c.err = 0) (h2 : ¬ (200 : Int) ≤ c.nest) : qc c = ({ c with nest := c.nest + 1 }, true) := by rw [qc, if_pos h, if_pos (by omega)]
theorem qsm (h : c.err = 0) (h2 : (200 : Int) ≤ c.nest) : qc c = (qdh c 2, false) := by rw [qc, if_pos h, if_neg (by omega)]
theorem qty (h : ¬ c.err = 0) : qcj c = c := if_neg h
theorem qz1 (h : c.err = 0) (h2 : (0 : Int) < c.nest) : qcj c = { c with nest := c.nest - 1 } := by rw [qcj, if_pos h, if_pos (by omega)]
theorem q3k (h : c.err = 0) (h2 : ¬ (0 : Int) < c.nest) : qcj c = c := by rw [qcj, if_pos h, if_neg (by omega)]
theorem qns (h : ¬ c.err = 0) : qki c = (c.pos, c.err) := if_neg h
theorem qwc (h : c.err = 0) (h2 : (c.at' : Int) < c.l.length) : qki c = ((c.l.getD c.at' T0).pos, 5) := by rw [qki, if_pos h, if_pos (by omega)]
theorem qsf (h : c.err = 0) (h2 : ¬ (c.at' : Int) < c.l.length) : qki c = (c.ep, 0) := by rw [qki, if_pos h, if_neg (by omega)]
end
theorem qbi0 (c : K) : qce Tryz.prog 19 (curE c) (curE c) [.ptr 0 0] (encT (qq c)) := by
 refine qp c0cu 1 (by simp) (by simp) ?_
 repeat' (first | refine vs_ ?_ | ((first | refine vr_ ?_ | refine qit ?_ | simp (disch := omega) only [qd5] | (refine cs_ ?_ ?_ <;> intro hc) | refine cj_ ?_ | simp (disch := omega) only [qh, qs]) <;> (try refine ev_ ?_)) | with_reducible exact ti_)
 ·rw [qgd (qiz (by assumption))]; rfl
 ·rw [qm0 (qii (by assumption)) (by assumption)]
 ·rw [qq3 (qii (by assumption)) (by assumption)]; rfl
section
variable {c : K} {L : List Ent} {Q : List Ent → VO → Prop} {Kk : Md → AV → List Ent → Prop}
theorem qb6 (h : Q (curE c :: L) (.val (encT (qq c)))) : VApp Tryz.prog (curE c :: L) (.fn 19 [] []) [.ptr 0 0] Q := qb9 (qbi0 c) (qbi _ _) (qbi _ _) rfl rfl fun _ => h
end
def qd0 (t : T) (ls : List (List UInt8)) : Bool := (decide (t.kind = 4) || decide (t.kind = 5)) && ls.contains t.text
theorem q93 (t : T) (ls : List (List UInt8)) : qz Tryz.prog 102 [encT t, .sl 1 (ls.map AV.str)] (.bool (qd0 t ls)) := by
 refine qj c0cv (by simp) (by simp only [go_sem]) rfl fun hw => ?_
 have h1 : ls.length ≤ maxLen := by have := hw.2.1.1; rwa [q21] at this
 have loop : ∀ (Q : VE → AF → List Ent → Prop) (tm : List (Nat × AV)) (H : List Ent), qd0 t ls = ls.contains t.text → H = [.blk [.int .i64 t.kind, .int .i64 t.pos, .int .i64 t.num, .str t.text]] →
  (get tm 2 = .ptr 0 0 ∧ get tm 15 = .sl 1 (ls.map AV.str) ∧ get tm 16 = .int .i64 ls.length ∧ get tm 17 = .int .i64 0) →
  Q = blq 0 (sq Tryz.prog none 26 0 (k0cv_r11.seq IC.ret) (retq 0 [(RV.t 4, Co.id)] fun H' o => o = VO.val (AV.bool (qd0 t ls)))) →
  VI Tryz.prog none 26 0 k0cv_l4.loop Q ⟨tm, []⟩ H := by
  rintro Q tm H hwd rfl ⟨h2, h15, h16, h17⟩ rfl
  rw [hwd]
  refine qbm (S := Nat) (fun i => i ≤ ls.length ∧ ls.contains t.text = (ls.drop i).contains t.text) (fun i => (⟨[(2, .ptr 0 0), (15, .sl 1 (ls.map AV.str)), (16, .int .i64 ls.length), (17, .int .i64 i)], []⟩, [.blk [.int .i64 t.kind, .int .i64 t.pos, .int .i64 t.num, .str t.text]])) (fun i => ls.length - i) ?_ fun i hi => ?_
  ·refine q8 0 [0] ⟨Nat.zero_le _, rfl⟩ rfl (by simp) ?_ ?_ ?_ <;> (try refine ev_ ?_) <;> (try with_reducible exact ti_) <;> (try simp (disch := omega) only [qs, and_true, true_and])
   exact ⟨h2, h15, h16, h17⟩
  ·obtain ⟨hi, ha⟩ := hi
   repeat' (first | refine vs_ ?_ | ((first | refine vr_ ?_ | simp (disch := omega) only [qzc] | (refine cs_ ?_ ?_ <;> intro hc) | refine cj_ ?_ | simp (disch := omega) only [qh, qs]) <;> (try refine ev_ ?_)) | with_reducible exact ti_)
   ·rw [ha, qst (i := i) (by omega), List.contains_cons, hc]; simp
   ·refine q8 (i + 1) [0] ⟨⟨by omega, ?_⟩, by omega⟩ rfl (by simp) ?_ ?_ ?_ <;> (try refine ev_ ?_) <;> (try with_reducible exact ti_) <;> (try simp (disch := omega) only [qs, and_true, true_and])
    rw [ha, qst (i := i) (by omega), List.contains_cons, beq_eq_false_iff_ne.2 hc, Bool.false_or]
   ·rw [ha, List.drop_of_length_le (by omega)]; rfl
 repeat' (first | refine vs_ ?_ | ((first | refine vr_ ?_ | (refine cs_ ?_ ?_ <;> intro hc) | refine cj_ ?_ | simp (disch := omega) only [qh, qs]) <;> (try refine ev_ ?_)) | with_reducible exact ti_)
 ·rw [show qd0 t ls = false by simp [qd0, *]]
 ·exact loop _ _ _ (by simp [qd0, *]) rfl ⟨rfl, rfl, rfl, rfl⟩ rfl
 ·exact loop _ _ _ (by simp [qd0, *]) rfl ⟨rfl, rfl, rfl, rfl⟩ rfl
theorem qbih (t : T) (x : List UInt8) : qd0 t [x] = qka t x := by
 unfold qd0 qka
 congr 1
 by_cases h : t.text = x
 ·simp [h]
 ·simp [h]
theorem q0l (t : T) (x : List UInt8) : qz Tryz.prog 102 [encT t, .sl 1 [.str x]] (.bool (qka t x)) := by
 rw [← qbih]; exact q93 t [x]
theorem qbkw (c : K) (hk : c.ok) : qce Tryz.prog 60 (curE c) (curE (qu c)) [.ptr 0 0] (encT (qq c)) := by
 refine qp c0cw 1 (by simp) (by simp) ?_
 have h1 := hk.1
 have h2 := hk.2
 repeat' (first | refine vs_ ?_ | ((first | refine vr_ ?_ | refine qit ?_ | refine qbl4 ?_ | refine qb6 ?_ | simp (disch := omega) only [qs] | (refine cs_ ?_ ?_ <;> intro hc) | refine cj_ ?_ | simp (disch := omega) only [qh, qs]) <;> (try refine ev_ ?_)) | with_reducible exact ti_)
 ·rw [qvw (qii (by assumption)) (by assumption)]
 ·rw [qzx (qii (by assumption)) (by assumption)]
 ·rw [qzk (qiz (by assumption))]
section
variable {c : K} {L : List Ent} {Q : List Ent → VO → Prop} {Kk : Md → AV → List Ent → Prop} {x : List UInt8} {e : Int}
theorem qlf (hk : c.ok) (h : Q (curE (qu c) :: L) (.val (encT (qq c)))) : VApp Tryz.prog (curE c :: L) (.fn 60 [] []) [.ptr 0 0] Q := qb9 (qbkw c hk) (qbi _ _) (qbi _ _) rfl rfl fun _ => h
theorem qcim (c : K) (x : List UInt8) : qce Tryz.prog 59 (curE c) (curE c) [.ptr 0 0, .str x] (.bool (isK c x)) := by
 refine qp c0cx 1 (by simp) (by simp) ?_
 repeat' (first | refine vs_ ?_ | ((first | refine vr_ ?_ | refine qit ?_ | refine qb6 ?_ | refine qa (q0l _ _) fun _ => ?_ | (refine cs_ ?_ ?_ <;> intro hc) | refine cj_ ?_ | fail) <;> (try refine ev_ ?_)) | with_reducible exact ti_)
 ·rw [isK, decide_eq_true (qii (by assumption))]; rfl
 ·rw [isK, decide_eq_false (qiz (by assumption))]; rfl
theorem a_Is (h : Q (curE c :: L) (.val (.bool (isK c x)))) : VApp Tryz.prog (curE c :: L) (.fn 59 [] []) [.ptr 0 0, .str x] Q := qb9 (qcim c x) (qbi _ _) (qbi _ _) rfl rfl fun _ => h
theorem q23 (c : K) (e : Int) : qce Tryz.prog 69 (curE c) (curE (qdh c e)) [.ptr 0 0, .int .i64 e] (.bool false) := by
 refine qp c0cy 1 (by simp) (by simp) ?_
 repeat' (first | refine vs_ ?_ | ((first | refine vr_ ?_ | refine qit ?_ | refine qb6 ?_ | (refine cs_ ?_ ?_ <;> intro hc) | refine cj_ ?_ | fail) <;> (try refine ev_ ?_)) | with_reducible exact ti_)
 ·subst hc; rw [qbat (qii (by assumption))]
 ·rw [q7u (qii (by assumption)) (by assumption)]
 ·rw [qfd (qiz (by assumption))]
theorem qud (h : Q (curE (qdh c e) :: L) (.val (.bool false))) : VApp Tryz.prog (curE c :: L) (.fn 69 [] []) [.ptr 0 0, .int .i64 e] Q := qb9 (q23 c e) (qbi _ _) (qbi _ _) rfl rfl fun _ => h
theorem qg4 {Kk : Md → AV → List Ent → Prop} (h : Kk (.meth 0 (curE c) (curE (qdh c e))) (.bool false) (curE (qdh c e) :: L)) : DApp Tryz.prog (curE c :: L) (.fn 69 [] []) [.ptr 0 0, .int .i64 e] Kk := qcg4 (q23 c e) (qbi _ _) (qbi _ _) rfl rfl (by simp [curE]) h
theorem qbct (c : K) (hk : c.ok) (x : List UInt8) : qce Tryz.prog 35 (curE c) (curE (qf c x).1) [.ptr 0 0, .str x] (.bool (qf c x).2) := by
 refine qp c0cz 1 (by simp) (by simp) ?_
 repeat' (first | refine vs_ ?_ | ((first | refine vr_ ?_ | refine a_Is ?_ | refine qlf hk ?_ | (refine cs_ ?_ ?_ <;> intro hc) | refine cj_ ?_ | fail) <;> (try refine ev_ ?_)) | with_reducible exact ti_)
 ·rw [qsa (by assumption)]; exact ⟨rfl, rfl⟩
 ·rw [q7z (by assumption)]; exact ⟨rfl, rfl⟩
theorem qes (hk : c.ok) (h : Q (curE (qf c x).1 :: L) (.val (.bool (qf c x).2))) : VApp Tryz.prog (curE c :: L) (.fn 35 [] []) [.ptr 0 0, .str x] Q := qb9 (qbct c hk x) (qbi _ _) (qbi _ _) rfl rfl fun _ => h
theorem qbhq (c : K) (hk : c.ok) (x : List UInt8) : qce Tryz.prog 65 (curE c) (curE (qi c x).1) [.ptr 0 0, .str x] (.bool (qi c x).2) := by
 refine qp c0da 1 (by simp) (by simp) ?_
 repeat' (first | refine vs_ ?_ | ((first | refine vr_ ?_ | refine qes hk ?_ | refine qud ?_ | (refine cs_ ?_ ?_ <;> intro hc) | refine cj_ ?_ | fail) <;> (try refine ev_ ?_)) | with_reducible exact ti_)
 ·rw [q9k (by assumption)]; exact ⟨rfl, rfl⟩
 ·rw [qbaz (by assumption)]; exact ⟨rfl, rfl⟩
theorem qcf (hk : c.ok) (h : Q (curE (qi c x).1 :: L) (.val (.bool (qi c x).2))) : VApp Tryz.prog (curE c :: L) (.fn 65 [] []) [.ptr 0 0, .str x] Q := qb9 (qbhq c hk x) (qbi _ _) (qbi _ _) rfl rfl fun _ => h
theorem q7y (c : K) : qce Tryz.prog 103 (curE c) (curE (qc c).1) [.ptr 0 0] (.bool (qc c).2) := by
 refine qp c0db 1 (by simp) (by simp) ?_
 repeat' (first | refine vs_ ?_ | ((first | refine vr_ ?_ | refine qit ?_ | refine qud ?_ | (refine cs_ ?_ ?_ <;> intro hc) | refine cj_ ?_ | simp (disch := omega) only [qh, qs]) <;> (try refine ev_ ?_)) | with_reducible exact ti_)
 ·rw [qi6 (qiz (by assumption)), qfd (qiz (by assumption))]; exact ⟨rfl, rfl⟩
 ·rw [qsm (qii (by assumption)) (by assumption)]; exact ⟨rfl, rfl⟩
 ·rw [qxe (qii (by assumption)) (by assumption), qe9 (by omega) (by unfold maxLen; omega)]; exact ⟨rfl, rfl⟩
theorem qi1 (h : Q (curE (qc c).1 :: L) (.val (.bool (qc c).2))) : VApp Tryz.prog (curE c :: L) (.fn 103 [] []) [.ptr 0 0] Q := qb9 (q7y c) (qbi _ _) (qbi _ _) rfl rfl fun _ => h
theorem q8c (c : K) (hn : c.nest ≤ 200) : qce Tryz.prog 105 (curE c) (curE (qcj c)) [.ptr 0 0] (.tup []) := by
 refine qp c0dc 1 (by simp) (by simp) ?_
 repeat' (first | refine vs_ ?_ | ((first | refine vr_ ?_ | refine qit ?_ | (refine cs_ ?_ ?_ <;> intro hc) | refine cj_ ?_ | fail) <;> (try refine ev_ ?_)) | with_reducible exact ti_)
 ·rw [qz1 (qii (by assumption)) (by assumption), qe9 (by omega) (by unfold maxLen; omega)]
  simp only [List.cons.injEq, Ent.blk.injEq, AV.int.injEq, true_and, and_true]; omega
 ·rw [q3k (qii (by assumption)) (by assumption)]
 ·rw [qty (qiz (by assumption))]
theorem qgn (hn : c.nest ≤ 200) (h : Q (curE (qcj c) :: L) (.val (.tup []))) : VApp Tryz.prog (curE c :: L) (.fn 105 [] []) [.ptr 0 0] Q := qb9 (q8c c hn) (qbi _ _) (qbi _ _) rfl rfl fun _ => h
theorem q2l (c : K) (hk : c.ok) : qce Tryz.prog 32 (curE c) (curE c) [.ptr 0 0] (.tup [.int .i64 (qki c).1, .int .i64 (qki c).2]) := by
 refine qp c0dd 1 (by simp) (by simp) ?_
 repeat' (first | refine vs_ ?_ | ((first | refine vr_ ?_ | simp (disch := omega) only [qd5] | (refine cs_ ?_ ?_ <;> intro hc) | refine cj_ ?_ | simp (disch := omega) only [qh, qs]) <;> (try refine ev_ ?_)) | with_reducible exact ti_)
 ·rw [qns (by assumption)]
 ·rw [qwc (by assumption) (by assumption)]
 ·rw [qsf (by assumption) (by assumption)]
theorem qck7 (hk : c.ok) (h : Q (curE c :: L) (.val (.tup [.int .i64 (qki c).1, .int .i64 (qki c).2]))) : VApp Tryz.prog (curE c :: L) (.fn 32 [] []) [.ptr 0 0] Q := qb9 (q2l c hk) (qbi _ _) (qbi _ _) rfl rfl fun _ => h
end
set_option maxRecDepth 4000

theorem q6b {a : List T} {r : List AV} (h : AV.wfs (.sl 4 (qcv a) :: r)) : a.length ≤ maxLen := by
 have := h.1.1; rwa [qgb] at this
def refC (c : K) : AV := .agg [.sl 4 (qcv (c.l.drop c.at')), .int .i64 0, .int .i64 c.ep, .int .i64 0, .str [], .int .i64 c.nest, .int .i64 c.err, .int .i64 c.pos]
attribute [go_sem] refC
theorem qbcv {l : List T} {i : Nat} : (l.drop i).length = l.length - i := List.length_drop
theorem qbmz {l : List T} {i : Nat} (h : i < l.length) : (l.drop i).getD 0 T0 = l.getD i T0 := by rw [qbcn h]; rfl
section
variable {c : K}
theorem qckf (h : ¬ ((c.l.drop c.at').length : Int) = 0) : (c.at' : Int) < c.l.length := by rw [qbcv] at h; omega
theorem qcjc (h : ((c.l.drop c.at').length : Int) = 0) : ¬ (c.at' : Int) < c.l.length := by rw [qbcv] at h; omega
theorem qbbs (h : (0 : Int) < (c.l.drop c.at').length) : (c.at' : Int) < c.l.length := by rw [qbcv] at h; omega
theorem qbbn (h : ¬ (0 : Int) < (c.l.drop c.at').length) : ¬ (c.at' : Int) < c.l.length := by rw [qbcv] at h; omega
end
theorem q5o {c : K} {x : List UInt8} (h : (qf c x).2 = false) : (qf c x).1 = c := by
 unfold qf at *
 split at h
 ·cases h
 ·rename_i h1; rw [if_neg h1]
theorem ql (c : K) : qz Tryz.prog 42 [refC c] (encT (qq c)) := by
 refine qj c0ch (by simp) (by simp only [go_sem]) rfl fun hw => ?_
 repeat' (first | refine vs_ ?_ | ((first | refine vr_ ?_ | simp (disch := omega) only [qd5] | (refine cs_ ?_ ?_ <;> intro hc) | refine cj_ ?_ | simp (disch := omega) only [qh, qs]) <;> (try refine ev_ ?_)) | with_reducible exact ti_)
 ·rw [qgd (by assumption)]; rfl
 ·rw [qq3 (by assumption) (qcjc (by assumption))]; rfl
 ·rw [qm0 (by assumption) (qckf (by assumption)), qbmz (by have := qckf (c := c) (by assumption); omega)]
theorem qc3 (c : K) : qz Tryz.prog 47 [refC c] (.tup [refC (qu c), encT (qq c)]) := by
 refine qj c0ci (by simp) (by simp only [go_sem]) (by simp only [go_sem]) fun hw => ?_
 repeat' (first | refine vs_ ?_ | ((first | refine vr_ ?_ | refine qa (ql _) fun _ => ?_ | refine qb (ql _) ?_ | (refine cs_ ?_ ?_ <;> intro hc) | refine cj_ ?_ | fail) <;> (try refine ev_ ?_)) | with_reducible exact ti_)
 ·rw [qvw (by assumption) (qbbs (by assumption)), List.drop_drop]
 ·rw [qzx (by assumption) (qbbn (by assumption))]
 ·rw [qzk (by assumption)]
theorem qum (t : T) (x : List UInt8) : qz Tryz.prog 90 [encT t, .str x] (.bool (qka t x)) := by
 refine qj c0cj (by simp) (by simp only [go_sem]) rfl fun hw => ?_
 repeat' (first | refine vs_ ?_ | ((first | refine vr_ ?_ | (refine cs_ ?_ ?_ <;> intro hc) | refine cj_ ?_ | fail) <;> (try refine ev_ ?_)) | with_reducible exact ti_)
 all_goals simp_all [qka]
theorem qcw (c : K) (x : List UInt8) : qz Tryz.prog 46 [refC c, .str x] (.bool (isK c x)) := by
 refine qj c0ck (by simp) (by simp only [go_sem]) rfl fun hw => ?_
 repeat' (first | refine vs_ ?_ | ((first | refine vr_ ?_ | refine qa (ql c) fun _ => ?_ | refine qa (qum _ _) fun _ => ?_ | (refine cs_ ?_ ?_ <;> intro hc) | refine cj_ ?_ | fail) <;> (try refine ev_ ?_)) | with_reducible exact ti_)
 all_goals simp_all [isK]
theorem qv (c : K) (x : List UInt8) : qz Tryz.prog 23 [refC c, .str x] (.tup [refC (qf c x).1, .bool (qf c x).2]) := by
 refine qj c0cl (by simp) (by simp only [go_sem]) (by simp only [go_sem]) fun hw => ?_
 repeat' (first | refine vs_ ?_ | ((first | refine vr_ ?_ | refine qa (qcw _ _) fun _ => ?_ | refine qa (qc3 _) fun _ => ?_ | (refine cs_ ?_ ?_ <;> intro hc) | refine cj_ ?_ | fail) <;> (try refine ev_ ?_)) | with_reducible exact ti_)
 ·rw [qsa (by assumption)]
 ·rw [q7z (by assumption)]
theorem qcr (c : K) (e : Int) : qz Tryz.prog 117 [refC c, .int .i64 e] (refC (qdh c e)) := by
 refine qj c0cm (by simp) (by simp only [go_sem]) (by simp only [go_sem]) fun hw => ?_
 repeat' (first | refine vs_ ?_ | ((first | refine vr_ ?_ | refine qa (ql c) fun _ => ?_ | (refine cs_ ?_ ?_ <;> intro hc) | refine cj_ ?_ | fail) <;> (try refine ev_ ?_)) | with_reducible exact ti_)
 ·rw [qfd (by assumption)]
 ·subst hc; rw [qbat (by assumption)]
 ·rw [q7u (by assumption) (by assumption)]
theorem qba (c : K) (x : List UInt8) : qz Tryz.prog 82 [refC c, .str x] (.tup [refC (qi c x).1, .bool (qi c x).2]) := by
 refine qj c0cn (by simp) (by simp only [go_sem]) (by simp only [go_sem]) fun hw => ?_
 repeat' (first | refine vs_ ?_ | ((first | refine vr_ ?_ | refine qa (qv _ _) fun _ => ?_ | refine qa (qcr _ _) fun _ => ?_ | (refine cs_ ?_ ?_ <;> intro hc) | refine cj_ ?_ | fail) <;> (try refine ev_ ?_)) | with_reducible exact ti_)
 ·rw [qbaz (by assumption), q5o (by assumption)]
 ·rw [q9k (by assumption)]
theorem qcp (c : K) : qz Tryz.prog 118 [refC c] (.tup [refC (qc c).1, .bool (qc c).2]) := by
 refine qj c0co (by simp) (by simp only [go_sem]) (by simp only [go_sem]) fun hw => ?_
 repeat' (first | refine vs_ ?_ | ((first | refine vr_ ?_ | refine qa (qcr c _) fun _ => ?_ | (refine cs_ ?_ ?_ <;> intro hc) | refine cj_ ?_ | simp (disch := omega) only [qh, qs]) <;> (try refine ev_ ?_)) | with_reducible exact ti_)
 ·rw [qi6 (by assumption)]
 ·rw [qsm (by assumption) (by assumption)]
 ·rw [qxe (by assumption) (by assumption), qe9 (by omega) (by unfold maxLen; omega)]; rfl
theorem qb4 (c : K) (hn : c.nest ≤ 200) : qz Tryz.prog 120 [refC c] (refC (qcj c)) := by
 refine qj c0cp (by simp) (by simp only [go_sem]) (by simp only [go_sem]) fun hw => ?_
 repeat' (first | refine vs_ ?_ | ((first | refine vr_ ?_ | (refine cs_ ?_ ?_ <;> intro hc) | refine cj_ ?_ | fail) <;> (try refine ev_ ?_)) | with_reducible exact ti_)
 ·rw [qz1 (by assumption) (by assumption), qe9 (by omega) (by unfold maxLen; omega)]
  simp only [VO.val.injEq, AV.agg.injEq, List.cons.injEq, AV.int.injEq, true_and, and_true]; omega
 ·rw [q3k (by assumption) (by assumption)]
 ·rw [qty (by assumption)]
theorem qt8 (c : K) : qz Tryz.prog 48 [refC c] (.tup [.int .i64 (qki c).1, .int .i64 (qki c).2]) := by
 refine qj c0cq (by simp) (by simp only [go_sem]) rfl fun hw => ?_
 repeat' (first | refine vs_ ?_ | ((first | refine vr_ ?_ | simp (disch := omega) only [qd5] | (refine cs_ ?_ ?_ <;> intro hc) | refine cj_ ?_ | simp (disch := omega) only [qh, qs]) <;> (try refine ev_ ?_)) | with_reducible exact ti_)
 ·rw [qns (by assumption)]
 ·rw [qwc (by assumption) (qbbs (by assumption)), qbmz (by have := qbbs (c := c) (by assumption); omega)]
 ·rw [qsf (by assumption) (qbbn (by assumption))]
def qhh : List T → List T
 | [] => []
 | t :: r => if t.kind = 0 then [] else t :: qhh r
def endT : List T → Int
 | [] => 0
 | t :: r => if t.kind = 0 then t.pos else endT r
def newK (l : List T) : K := ⟨qhh l, endT l, 0, 0, 0, 0⟩
theorem qll : ∀ l : List T, (qhh l).length ≤ l.length
 | [] => Nat.le_refl _
 | t :: r => by
   rw [qhh]
   split
   ·exact Nat.zero_le _
   ·have := qll r; simp only [List.length_cons]; omega
theorem qw9 {l : List T} {i : Nat} (h1 : ∀ t ∈ l.take i, t.kind ≠ 0) (h : i < l.length) (h2 : (l.getD i T0).kind = 0) : qhh l = l.take i ∧ endT l = (l.getD i T0).pos := by
 induction l generalizing i with
 | nil => simp at h
 | cons t r ih =>
   cases i with
   | zero => simp only [List.getD_cons_zero] at h2 ⊢; rw [qhh, endT, if_pos h2, if_pos h2]; exact ⟨rfl, rfl⟩
   | succ i =>
     have ht := h1 t (by simp)
     obtain ⟨g1, g2⟩ := ih (fun u hu => h1 u (List.mem_cons_of_mem t hu)) (by simpa using h) (by simpa using h2)
     rw [qhh, endT, if_neg ht, if_neg ht, g1, g2]
     exact ⟨rfl, rfl⟩
theorem qyk {l : List T} (h1 : ∀ t ∈ l, t.kind ≠ 0) : qhh l = l ∧ endT l = 0 := by
 induction l with
 | nil => exact ⟨rfl, rfl⟩
 | cons t r ih =>
   obtain ⟨g1, g2⟩ := ih fun u hu => h1 u (by simp [hu])
   rw [qhh, endT, if_neg (h1 t (by simp)), if_neg (h1 t (by simp)), g1, g2]
   exact ⟨rfl, rfl⟩
theorem qj8 {a : List T} {i : Nat} (h : i < a.length) {p : T → Prop} (h1 : ∀ t ∈ a.take i, p t) (h2 : p (a.getD i T0)) : ∀ t ∈ a.take (i + 1), p t := by
 intro t ht
 rw [List.take_add_one, List.getElem?_eq_getElem h] at ht
 rcases List.mem_append.1 ht with ht | ht
 ·exact h1 t ht
 ·simp only [Option.toList_some, List.mem_singleton] at ht
  subst ht
  rwa [List.getD_eq_getElem?_getD, List.getElem?_eq_getElem h] at h2
theorem qye (l : List T) : qz Tryz.prog 21 [.sl 4 (qcv l)] (refC (newK l)) := by
 refine qj c0cr (by simp) (by simp only [go_sem]) (by simp only [go_sem]) fun hw => ?_
 have h1 := q6b hw
 repeat' (first | refine vs_ ?_ | ((first | refine vr_ ?_ | (refine cs_ ?_ ?_ <;> intro hc) | refine cj_ ?_ | simp (disch := omega) only [qh, qs]) <;> (try refine ev_ ?_)) | with_reducible exact ti_)
 refine qbm (S := Nat) (fun i => i ≤ l.length ∧ ∀ t ∈ l.take i, t.kind ≠ 0) (fun i => (⟨[(0, .sl 4 (qcv l)), (2, .ptr 0 0), (3, .int .i64 i)], []⟩, [.blk [.nils, .int .i64 0, .int .i64 0, .int .i64 0, .str [], .int .i64 0, .int .i64 0, .int .i64 0]])) (fun i => l.length - i) ?_ fun i hi => ?_
 ·refine q8 0 [0] ⟨Nat.zero_le _, by simp⟩ rfl (by simp) ?_ ?_ ?_ <;> (try refine ev_ ?_) <;> (try with_reducible exact ti_) <;> (try simp (disch := omega) only [qs, and_true, true_and])
 ·obtain ⟨hi, ha⟩ := hi
  repeat' (first | refine vs_ ?_ | ((first | refine vr_ ?_ | simp (disch := omega) only [qd5] | (refine cs_ ?_ ?_ <;> intro hc) | refine cj_ ?_ | simp (disch := omega) only [qh, qs]) <;> (try refine ev_ ?_)) | with_reducible exact ti_)
  ·obtain ⟨g1, g2⟩ := qw9 ha (by omega) (by assumption)
   rw [newK, g1, g2]; rfl
  ·refine q8 (i + 1) [0] ⟨⟨by omega, qj8 (by omega) ha (by assumption)⟩, by omega⟩ rfl (by simp) ?_ ?_ ?_ <;> (try refine ev_ ?_) <;> (try with_reducible exact ti_) <;> (try simp (disch := omega) only [qs, and_true, true_and])
  ·rw [List.take_of_length_le (by omega)] at ha
   obtain ⟨g1, g2⟩ := qyk ha
   rw [newK, g1, g2]; rfl
theorem qcis (x : Ent) (es : List AV) : co (x :: accE 4 es) (.sl 4) (accV 1 es) = .sl 4 es := by
 cases es with
 | nil => rw [qr, qus]
 | cons e es =>
   rw [qbd (by simp), qx5, qbc (by simp)]
   simp only [ent, qbaj, if_true]
def qbai (l : List T) (i : Nat) : AF × List Ent :=
 (⟨[(3, .ptr 0 0), (8, .sl 4 (qcv l)), (9, .int .i64 l.length), (10, .int .i64 i)], []⟩,
   .blk [accV 1 (qcv (l.take i)), .int .i64 0, .int .i64 0, .int .i64 0, .str [], .int .i64 0, .int .i64 0, .int .i64 0, .int .i64 0] :: accE 4 (qcv (l.take i)))
theorem qnp {l : List T} (h : l ≠ []) : qcv l ≠ [] := by cases l with | nil => exact absurd rfl h | cons _ _ => simp [qcv]
theorem q41 {l : List T} {i : Nat} (h : i < l.length) : l.take (i + 1) = l.take i ++ [l.getD i T0] := by
 rw [List.take_add_one, List.getElem?_eq_getElem h, List.getD_eq_getElem?_getD, List.getElem?_eq_getElem h]; rfl
theorem capT {n : Nat} (h : n ≤ 1048580) : qdq n 40 := by unfold qdq; omega
theorem qbj1 (l : List T) (hl : l.length ≤ 1048577) : VCalls Tryz.prog 31 [] [.sl 4 (qcv l)] fun H' o => H' = [curE (newK l)] ∧ o = .val (.ptr 0 0) := by
 refine qp c0cs 1 (by simp) (by simp) ?_
 have hmx : (1048577 : Nat) ≤ maxLen := by unfold maxLen; omega
 repeat' (first | refine vs_ ?_ | ((first | refine vr_ ?_ | (refine cs_ ?_ ?_ <;> intro hc) | refine cj_ ?_ | simp (disch := omega) only [qh, qs]) <;> (try refine ev_ ?_)) | with_reducible exact ti_)
 refine qbm (S := Nat) (fun i => i ≤ l.length ∧ ∀ t ∈ l.take i, t.kind ≠ 0) (qbai l) (fun i => l.length - i) ?_ fun i hi => ?_
 ·refine q8 0 [0] ⟨Nat.zero_le _, by simp⟩ rfl (by simp) ?_ ?_ ?_ <;> simp only [qbai, List.take_zero, qib, qr, qt] <;> (try refine ev_ ?_) <;> (try with_reducible exact ti_) <;> (try simp (disch := omega) only [qs, and_true, true_and])
 ·obtain ⟨hi, ha⟩ := hi
  unfold qbai
  by_cases hx : i < l.length ∧ (l.getD i T0).kind ≠ 0
  ·have hT : AV.agg [.int .i64 (l.getD i T0).kind, .int .i64 (l.getD i T0).pos, .int .i64 (l.getD i T0).num, .str (l.getD i T0).text] = encT (l.getD i T0) := rfl
   have hts := q41 hx.1
   have hne : qcv (l.take (i + 1)) ≠ [] := qnp (by rw [hts]; simp)
   have hlen : (l.take (i + 1)).length = i + 1 := by rw [List.length_take]; omega
   by_cases h0 : i = 0
   ·subst h0
    simp only [List.take_zero, qib, qr, qt]
    repeat' (first | refine vs_ ?_ | ((first | refine vr_ ?_ | simp (disch := omega) only [qd5] | (refine cs_ ?_ ?_ <;> intro hc) | refine cj_ ?_ | simp (disch := omega) only [qh, qs]) <;> (try refine ev_ ?_)) | with_reducible exact ti_)
    ·exact absurd (by assumption) hx.2
    ·refine q8 1 [0, 2] ⟨⟨by omega, qj8 (by omega) ha hx.2⟩, by omega⟩ rfl (by simp) ?_ ?_ ?_
     all_goals simp only [qbai, qbd hne, qbc hne, qgb, hlen]
     all_goals (try simp only [Nat.zero_add] at hts)
     all_goals simp only [hts, List.take_zero, List.nil_append]
     all_goals (refine ev_ ?_; (try with_reducible exact ti_))
     all_goals first | exact ⟨rfl, rfl⟩ | exact congrArg _ (by decide) | rfl | trace_state
    ·omega
   ·have hne0 : qcv (l.take i) ≠ [] := qnp (by intro e; have := congrArg List.length e; simp only [List.length_take, List.length_nil] at this; omega)
    have hli : (l.take i).length = i := by rw [List.length_take]; omega
    simp only [qbd hne0, qbc hne0, qgb]
    have hat : ∀ ac : List T, ac = l.take i → qcv ac ++ [encT (l.getD i T0)] = qcv (l.take (i + 1)) := fun ac e => by rw [e, qga, hts]
    generalize hac : l.take i = ac at *
    have hcap : qdq (ac.length + 1) 40 := capT (by omega)
    have hil : (i : Int) < l.length := by omega
    have hkd := hx.2
    repeat' (first | refine vs_ ?_ | ((first | refine vr_ ?_ | fail) <;> (try simp (disch := first | omega | (simp only [List.length_set, List.length_append, List.length_cons, List.length_nil]; done) | (simp only [List.length_set, List.length_append, List.length_cons, List.length_nil]; omega)) only [hil, hkd, qd5, ne_eq, go_sem, ↓reduceIte])) | ((first | (refine cs_ ?_ ?_ <;> intro hc) | refine cj_ ?_ | simp (disch := omega) only [qh, qs]) <;> (try refine ev_ ?_)) | with_reducible exact ti_)
    ·refine q8 (i + 1) [0, 3] ⟨⟨by omega, qj8 (by omega) (by rw [hac]; exact ha) hx.2⟩, by omega⟩ rfl (by simp) ?_ ?_ ?_
     all_goals simp only [qbai, qbd hne, qbc hne, qgb, hlen]
     all_goals rw [← hat ac rfl]
     all_goals (skip <;> (try refine ev_ ?_) <;> (try with_reducible exact ti_) <;> (try simp (disch := omega) only [qs, and_true, true_and]))
     rw [hli, qga ac, qk1]
     exact ⟨rfl, qio _ _, rfl⟩
  ·refine qvn 0 0 (.sl 4) rfl ?_
   simp only [List.set_cons_zero, List.getD_cons_zero, qcis]
   repeat' (first | refine vs_ ?_ | ((first | refine vr_ ?_ | simp (disch := omega) only [qd5] | (refine cs_ ?_ ?_ <;> intro hc) | refine cj_ ?_ | simp (disch := omega) only [qh, qs]) <;> (try refine ev_ ?_)) | with_reducible exact ti_)
   ·obtain ⟨g1, g2⟩ := qw9 ha (by omega) (by assumption)
    rw [newK, g1, g2]; rfl
   ·exact hx ⟨by omega, by assumption⟩
   ·rw [List.take_of_length_le (by omega)] at ha ⊢
    obtain ⟨g1, g2⟩ := qyk ha
    rw [newK, g1, g2]; rfl
end Go.Proofs.YtfjbmjplnmaclaaGreat
