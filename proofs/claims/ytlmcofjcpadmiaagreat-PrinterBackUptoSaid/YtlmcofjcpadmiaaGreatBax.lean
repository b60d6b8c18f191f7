/- Texts of this proof, joined. -/
import Derived.Test.YtlmcofjcpadmiaaGreatBav
import Derived.Test.YtlmcofjcpadmiaaGreatBaw

/- the cursor: what it is, what its methods do -/
set_option maxRecDepth 4000
namespace Go.Proofs.YtlmcofjcpadmiaaGreat
open Go Go.RowKit Go.V
set_option linter.unusedVariables false
set_option linter.unusedSimpArgs false

attribute [go_sem] cond_true cond_false
structure K where
 l : List T
 ep : Int
 at' : Nat
 nest : Nat
 err : Int
 pos : Int
def K.ok (c : K) : Prop := c.at' ≤ c.l.length ∧ c.l.length ≤ maxLen
def curE (c : K) : Ent := .blk [.sl 4 (qc6 c.l), .int .i64 0, .int .i64 c.ep, .int .i64 0, .str [], .int .i64 c.at', .int .i64 c.nest, .int .i64 c.err, .int .i64 c.pos]
def K.bad (c : K) : Bool := !decide (c.err = 0)
theorem qf1 {c : K} (h : c.bad = false) : c.err = 0 := by simpa [K.bad] using h
theorem qf8 {c : K} (h : c.bad = true) : ¬ c.err = 0 := by simpa [K.bad] using h
def qt (c : K) : T := if c.err = 0 then if c.at' < c.l.length then c.l.getD c.at' T0 else ⟨0, c.ep, 0, []⟩ else T0
def qj (c : K) : K := if c.err = 0 then if c.at' < c.l.length then { c with at' := c.at' + 1 } else c else c
def qbx (t : T) (s : List UInt8) : Bool := (decide (t.kind = 4) || decide (t.kind = 5)) && decide (t.text = s)
def isK (c : K) (s : List UInt8) : Bool := decide (c.err = 0) && qbx (qt c) s
def qer (c : K) (e : Int) : K := if c.err = 0 then { c with err := if e = 0 then 1 else e, pos := (qt c).pos } else c
def qm (c : K) (s : List UInt8) : K × Bool := if isK c s = true then (qj c, true) else (c, false)
def qx (c : K) (s : List UInt8) : K × Bool := if isK c s = true then (qj c, true) else (qer c 5, false)
def qd (c : K) : K × Bool := if c.err = 0 then if c.nest < 200 then ({ c with nest := c.nest + 1 }, true) else (qer c 2, false) else (c, false)
def qcy (c : K) : K := if c.err = 0 then if 0 < c.nest then { c with nest := c.nest - 1 } else c else c
def qiq (c : K) : Int × Int := if c.err = 0 then if c.at' < c.l.length then ((c.l.getD c.at' T0).pos, 5) else (c.ep, 0) else (c.pos, c.err)

theorem qo (k : Nat) (c : K) : (curE c).bd k = true := by
 simp only [curE, Ent.bd, AV.bds, AV.bd, qjq, Bool.and_true]
theorem qlj (σ : Nat → Nat) (c : K) : (curE c).ren σ = curE c := Ent.ren_same (m := 0) (fun i hi => by omega) _ (qo 0 c)
attribute [go_sem] curE
def qbq (P : Program) (f : FuncId) (e e' : Ent) (args : List AV) (r : AV) : Prop := VCalls P f [e] args fun H' o => H' = [e'] ∧ o = .val r
section
variable {P : Program} {f : FuncId} {e e' : Ent} {L : List Ent} {args : List AV} {r : AV} {Q : List Ent → VO → Prop}
theorem qbh (h : qbq P f e e' args r) (hb : e.bd 1 = true) (hb' : e'.bd 1 = true) (ha : AV.bds 1 args = true) (hr : r.bd 1 = true) (hq : r.wf → Q (e' :: L) (.val r)) : VApp P (e :: L) (.fn f [] []) args Q :=
 qeq (first := []) (caps := []) (by
  simp only [List.nil_append, List.append_nil]
  refine qh6 (H0 := [e]) (L := L) (h.mono' (Q' := fun H' o => (H' = [e'] ∧ o = .val r) ∧ r.wf) fun H' o hw ho => ⟨ho, by have := ho.2; subst this; exact hw⟩) (by simp [hb]) ha ?_
  rintro H1 o ⟨⟨rfl, rfl⟩, hw⟩
  exact ⟨rfl, by simp [hb'], hr, hq hw⟩)
theorem q1d (h : qbq P f e e args r) (hb : e.bd 1 = true) (ha : AV.bds 1 args = true) (hr : r.bd 1 = true) {rs : List AV} {Kk : Md → AV → List Ent → Prop} (hq : r.wf → Kk .here r (e :: L)) (hw : r.wf) : DApp P (e :: L) (.fn f [] []) args rs Kk :=
 .inl ⟨r, qbh h hb hb ha hr fun _ => ⟨rfl, rfl⟩, hq hw⟩
theorem qb0r (h : qbq P f e e' args r) (hb : e.bd 1 = true) (hb' : e'.bd 1 = true) (ha : AV.bds 1 args = true) (hr : r.bd 1 = true) (hn : e ≠ .dead) {rs : List AV} {Kk : Md → AV → List Ent → Prop} (hq : Kk (.meth 0 e e') r (e' :: L)) : DApp P (e :: L) (.fn f [] []) args rs Kk :=
 .inr (.inr (.inl ⟨r, 0, e, e', ⟨hn, rfl, fun H₀ h0 => by
  cases H₀ with
  | nil => exact absurd h0.symm hn
  | cons x L' =>
    cases (show x = e from h0)
    exact qbh h hb hb' ha hr fun _ => ⟨rfl, rfl⟩⟩, hq⟩))
end

theorem qpc (c : K) : qbq Tryz.prog 109 (curE c) (curE c) [.ptr 0 0] (.bool c.bad) := by
 refine qk c0eg 1 (by simp) (by simp) ?_
 unfold K.bad
 repeat' (first | refine vs_ ?_ | ((first | refine vr_ ?_ | (refine cs_ ?_ ?_ <;> intro hc) | refine cj_ ?_ | fail) <;> (try refine ev_ ?_)) | with_reducible exact ti_)
section
variable {c : K} {L : List Ent} {Q : List Ent → VO → Prop} {rs : List AV} {Kk : Md → AV → List Ent → Prop}
theorem qfp (h : Q (curE c :: L) (.val (.bool c.bad))) : VApp Tryz.prog (curE c :: L) (.fn 109 [] []) [.ptr 0 0] Q := qbh (qpc c) (qo _ _) (qo _ _) rfl rfl fun _ => h
theorem q78 (h : Kk .here (.bool c.bad) (curE c :: L)) : DApp Tryz.prog (curE c :: L) (.fn 109 [] []) [.ptr 0 0] rs Kk := q1d (qpc c) (qo _ _) rfl rfl (fun _ => h) trivial
end
section
variable {c : K}
theorem q1a (h : ¬ c.err = 0) : qt c = T0 := if_neg h
theorem qqx (h : c.err = 0) (h2 : (c.at' : Int) < c.l.length) : qt c = c.l.getD c.at' T0 := by rw [qt, if_pos h, if_pos (by omega)]
theorem qnd (h : c.err = 0) (h2 : ¬ (c.at' : Int) < c.l.length) : qt c = ⟨0, c.ep, 0, []⟩ := by rw [qt, if_pos h, if_neg (by omega)]
theorem qz7 (h : ¬ c.err = 0) : qj c = c := if_neg h
theorem qqu (h : c.err = 0) (h2 : (c.at' : Int) < c.l.length) : qj c = { c with at' := c.at' + 1 } := by rw [qj, if_pos h, if_pos (by omega)]
theorem q3d (h : c.err = 0) (h2 : ¬ (c.at' : Int) < c.l.length) : qj c = c := by rw [qj, if_pos h, if_neg (by omega)]
theorem qms {e : Int} (h : ¬ c.err = 0) : qer c e = c := if_neg h
theorem qbu8 (h : c.err = 0) : qer c 0 = { c with err := 1, pos := (qt c).pos } := by rw [qer, if_pos h, if_pos rfl]
theorem qbox {e : Int} (h : c.err = 0) (he : ¬ e = 0) : qer c e = { c with err := e, pos := (qt c).pos } := by rw [qer, if_pos h, if_neg he]
end
section
variable {c : K} {x : List UInt8}
theorem q3y (h : isK c x = true) : qm c x = (qj c, true) := if_pos h
theorem qq2 (h : isK c x = false) : qm c x = (c, false) := by rw [qm, h]; rfl
theorem qbs2 (h : (qm c x).2 = true) : qx c x = ((qm c x).1, true) := by
 unfold qm qx at *
 split at h
 ·rename_i h1; rw [if_pos h1, if_pos h1]
 ·cases h
theorem qbki (h : (qm c x).2 = false) : qx c x = (qer (qm c x).1 5, false) := by
 unfold qm qx at *
 split at h
 ·cases h
 ·rename_i h1; rw [if_neg h1, if_neg h1]
theorem qy6 (h : ¬ c.err = 0) : qd c = (c, false) := if_neg h
theorem qsm (h : c.err = 0) (h2 : ¬ (200 : Int) ≤ c.nest) : qd c = ({ c with nest := c.nest + 1 }, true) := by rw [qd, if_pos h, if_pos (by omega)]
theorem qt4 (h : c.err = 0) (h2 : (200 : Int) ≤ c.nest) : qd c = (qer c 2, false) := by rw [qd, if_pos h, if_neg (by omega)]
theorem qyy (h : ¬ c.err = 0) : qcy c = c := if_neg h
theorem qs0 (h : c.err = 0) (h2 : (0 : Int) < c.nest) : qcy c = { c with nest := c.nest - 1 } := by rw [qcy, if_pos h, if_pos (by omega)]
theorem qbbj (h : c.err = 0) (h2 : ¬ (0 : Int) < c.nest) : qcy c = c := by rw [qcy, if_pos h, if_neg (by omega)]
theorem q0w (h : ¬ c.err = 0) : qiq c = (c.pos, c.err) := if_neg h
theorem qwh (h : c.err = 0) (h2 : (c.at' : Int) < c.l.length) : qiq c = ((c.l.getD c.at' T0).pos, 5) := by rw [qiq, if_pos h, if_pos (by omega)]
theorem qrw (h : c.err = 0) (h2 : ¬ (c.at' : Int) < c.l.length) : qiq c = (c.ep, 0) := by rw [qiq, if_pos h, if_neg (by omega)]
end
theorem qbb1 (c : K) : qbq Tryz.prog 66 (curE c) (curE c) [.ptr 0 0] (encT (qt c)) := by
 refine qk c0eh 1 (by simp) (by simp) ?_
 repeat' (first | refine vs_ ?_ | ((first | refine vr_ ?_ | refine qfp ?_ | simp (disch := omega) only [qe6] | (refine cs_ ?_ ?_ <;> intro hc) | refine cj_ ?_ | simp (disch := omega) only [qb, qi]) <;> (try refine ev_ ?_)) | with_reducible exact ti_)
 ·rw [q1a (qf8 (by assumption))]; rfl
 ·rw [qqx (qf1 (by assumption)) (by assumption)]
 ·rw [qnd (qf1 (by assumption)) (by assumption)]; rfl
section
variable {c : K} {L : List Ent} {Q : List Ent → VO → Prop} {rs : List AV} {Kk : Md → AV → List Ent → Prop}
theorem qcx (h : Q (curE c :: L) (.val (encT (qt c)))) : VApp Tryz.prog (curE c :: L) (.fn 66 [] []) [.ptr 0 0] Q := qbh (qbb1 c) (qo _ _) (qo _ _) rfl rfl fun _ => h
end
def qbv (t : T) (ls : List (List UInt8)) : Bool := (decide (t.kind = 4) || decide (t.kind = 5)) && ls.contains t.text
theorem q0c (t : T) (ls : List (List UInt8)) : ql Tryz.prog 193 [encT t, .sl 1 (ls.map AV.str)] (.bool (qbv t ls)) := by
 refine qg c0ei (by simp) (by simp only [go_sem]) rfl fun hw => ?_
 have h1 : ls.length ≤ maxLen := by have := hw.2.1.1; rwa [qwl] at this
 have loop : ∀ (Q : VE → AF → List Ent → Prop) (tm : List (Nat × AV)) (H : List Ent), qbv t ls = ls.contains t.text → H = [.blk [.int .i64 t.kind, .int .i64 t.pos, .int .i64 t.num, .str t.text]] →
  (get tm 2 = .ptr 0 0 ∧ get tm 15 = .sl 1 (ls.map AV.str) ∧ get tm 16 = .int .i64 ls.length ∧ get tm 17 = .int .i64 0) →
  Q = blq 0 (sq Tryz.prog none 26 0 (k0ei_r11.seq IC.ret) (retq 0 [(RV.t 4, Co.id)] fun H' o => o = VO.val (AV.bool (qbv t ls)))) →
  VI Tryz.prog none 26 0 k0ei_l4.loop Q ⟨tm, []⟩ H := by
  rintro Q tm H hwd rfl ⟨h2, h15, h16, h17⟩ rfl
  rw [hwd]
  refine qch (S := Nat) (fun i => i ≤ ls.length ∧ ls.contains t.text = (ls.drop i).contains t.text) (fun i => (⟨[(2, .ptr 0 0), (15, .sl 1 (ls.map AV.str)), (16, .int .i64 ls.length), (17, .int .i64 i)], []⟩, [.blk [.int .i64 t.kind, .int .i64 t.pos, .int .i64 t.num, .str t.text]])) (fun i => ls.length - i) ?_ fun i hi => ?_
  ·refine qbj 0 [0] ⟨Nat.zero_le _, rfl⟩ rfl (by simp) ?_ ?_ ?_ <;> (try refine ev_ ?_) <;> (try with_reducible exact ti_) <;> (try simp (disch := omega) only [qi, and_true, true_and])
   exact ⟨h2, h15, h16, h17⟩
  ·obtain ⟨hi, ha⟩ := hi
   repeat' (first | refine vs_ ?_ | ((first | refine vr_ ?_ | simp (disch := omega) only [qsk] | (refine cs_ ?_ ?_ <;> intro hc) | refine cj_ ?_ | simp (disch := omega) only [qb, qi]) <;> (try refine ev_ ?_)) | with_reducible exact ti_)
   ·rw [ha, qmf (i := i) (by omega), List.contains_cons, hc]; simp
   ·refine qbj (i + 1) [0] ⟨⟨by omega, ?_⟩, by omega⟩ rfl (by simp) ?_ ?_ ?_ <;> (try refine ev_ ?_) <;> (try with_reducible exact ti_) <;> (try simp (disch := omega) only [qi, and_true, true_and])
    rw [ha, qmf (i := i) (by omega), List.contains_cons, beq_eq_false_iff_ne.2 hc, Bool.false_or]
   ·rw [ha, List.drop_of_length_le (by omega)]; rfl
 repeat' (first | refine vs_ ?_ | ((first | refine vr_ ?_ | (refine cs_ ?_ ?_ <;> intro hc) | refine cj_ ?_ | simp (disch := omega) only [qb, qi]) <;> (try refine ev_ ?_)) | with_reducible exact ti_)
 ·rw [show qbv t ls = false by simp [qbv, *]]
 ·exact loop _ _ _ (by simp [qbv, *]) rfl ⟨rfl, rfl, rfl, rfl⟩ rfl
 ·exact loop _ _ _ (by simp [qbv, *]) rfl ⟨rfl, rfl, rfl, rfl⟩ rfl
theorem q8r (t : T) (x : List UInt8) : qbv t [x] = qbx t x := by
 unfold qbv qbx
 congr 1
 by_cases h : t.text = x
 ·simp [h]
 ·simp [h]
theorem qvc (t : T) (x : List UInt8) : ql Tryz.prog 193 [encT t, .sl 1 [.str x]] (.bool (qbx t x)) := by
 rw [← q8r]; exact q0c t [x]
theorem qbbs (c : K) (hk : c.ok) : qbq Tryz.prog 154 (curE c) (curE (qj c)) [.ptr 0 0] (encT (qt c)) := by
 refine qk c0ej 1 (by simp) (by simp) ?_
 have h1 := hk.1
 have h2 := hk.2
 repeat' (first | refine vs_ ?_ | ((first | refine vr_ ?_ | refine qfp ?_ | refine q78 ?_ | refine qcx ?_ | simp (disch := omega) only [qi] | (refine cs_ ?_ ?_ <;> intro hc) | refine cj_ ?_ | simp (disch := omega) only [qb, qi]) <;> (try refine ev_ ?_)) | with_reducible exact ti_)
 ·rw [qqu (qf1 (by assumption)) (by assumption)]
 ·rw [q3d (qf1 (by assumption)) (by assumption)]
 ·rw [qz7 (qf8 (by assumption))]
section
variable {c : K} {L : List Ent} {Q : List Ent → VO → Prop} {rs : List AV} {Kk : Md → AV → List Ent → Prop} {x : List UInt8} {e : Int}
theorem qhd (hk : c.ok) (h : Q (curE (qj c) :: L) (.val (encT (qt c)))) : VApp Tryz.prog (curE c :: L) (.fn 154 [] []) [.ptr 0 0] Q := qbh (qbbs c hk) (qo _ _) (qo _ _) rfl rfl fun _ => h
theorem qb2t (c : K) (x : List UInt8) : qbq Tryz.prog 155 (curE c) (curE c) [.ptr 0 0, .str x] (.bool (isK c x)) := by
 refine qk c0ek 1 (by simp) (by simp) ?_
 repeat' (first | refine vs_ ?_ | ((first | refine vr_ ?_ | refine qfp ?_ | refine qcx ?_ | refine qa (qvc _ _) fun _ => ?_ | (refine cs_ ?_ ?_ <;> intro hc) | refine cj_ ?_ | fail) <;> (try refine ev_ ?_)) | with_reducible exact ti_)
 ·rw [isK, decide_eq_true (qf1 (by assumption))]; rfl
 ·rw [isK, decide_eq_false (qf8 (by assumption))]; rfl
theorem a_Is (h : Q (curE c :: L) (.val (.bool (isK c x)))) : VApp Tryz.prog (curE c :: L) (.fn 155 [] []) [.ptr 0 0, .str x] Q := qbh (qb2t c x) (qo _ _) (qo _ _) rfl rfl fun _ => h
theorem qxe (c : K) (e : Int) : qbq Tryz.prog 152 (curE c) (curE (qer c e)) [.ptr 0 0, .int .i64 e] (.bool false) := by
 refine qk c0el 1 (by simp) (by simp) ?_
 repeat' (first | refine vs_ ?_ | ((first | refine vr_ ?_ | refine qfp ?_ | refine qcx ?_ | (refine cs_ ?_ ?_ <;> intro hc) | refine cj_ ?_ | fail) <;> (try refine ev_ ?_)) | with_reducible exact ti_)
 ·subst hc; rw [qbu8 (qf1 (by assumption))]
 ·rw [qbox (qf1 (by assumption)) (by assumption)]
 ·rw [qms (qf8 (by assumption))]
theorem qos (h : Q (curE (qer c e) :: L) (.val (.bool false))) : VApp Tryz.prog (curE c :: L) (.fn 152 [] []) [.ptr 0 0, .int .i64 e] Q := qbh (qxe c e) (qo _ _) (qo _ _) rfl rfl fun _ => h
theorem qb2a {rs : List AV} {Kk : Md → AV → List Ent → Prop} (h : Kk (.meth 0 (curE c) (curE (qer c e))) (.bool false) (curE (qer c e) :: L)) : DApp Tryz.prog (curE c :: L) (.fn 152 [] []) [.ptr 0 0, .int .i64 e] rs Kk := qb0r (qxe c e) (qo _ _) (qo _ _) rfl rfl (by simp [curE]) h
theorem q9w (c : K) (hk : c.ok) (x : List UInt8) : qbq Tryz.prog 105 (curE c) (curE (qm c x).1) [.ptr 0 0, .str x] (.bool (qm c x).2) := by
 refine qk c0em 1 (by simp) (by simp) ?_
 repeat' (first | refine vs_ ?_ | ((first | refine vr_ ?_ | refine a_Is ?_ | refine qhd hk ?_ | (refine cs_ ?_ ?_ <;> intro hc) | refine cj_ ?_ | fail) <;> (try refine ev_ ?_)) | with_reducible exact ti_)
 ·rw [qq2 (by assumption)]; exact ⟨rfl, rfl⟩
 ·rw [q3y (by assumption)]; exact ⟨rfl, rfl⟩
theorem qdv (hk : c.ok) (h : Q (curE (qm c x).1 :: L) (.val (.bool (qm c x).2))) : VApp Tryz.prog (curE c :: L) (.fn 105 [] []) [.ptr 0 0, .str x] Q := qbh (q9w c hk x) (qo _ _) (qo _ _) rfl rfl fun _ => h
theorem q6t (c : K) (hk : c.ok) (x : List UInt8) : qbq Tryz.prog 156 (curE c) (curE (qx c x).1) [.ptr 0 0, .str x] (.bool (qx c x).2) := by
 refine qk c0en 1 (by simp) (by simp) ?_
 repeat' (first | refine vs_ ?_ | ((first | refine vr_ ?_ | refine qdv hk ?_ | refine qos ?_ | (refine cs_ ?_ ?_ <;> intro hc) | refine cj_ ?_ | fail) <;> (try refine ev_ ?_)) | with_reducible exact ti_)
 ·rw [qbs2 (by assumption)]; exact ⟨rfl, rfl⟩
 ·rw [qbki (by assumption)]; exact ⟨rfl, rfl⟩
theorem qc4 (hk : c.ok) (h : Q (curE (qx c x).1 :: L) (.val (.bool (qx c x).2))) : VApp Tryz.prog (curE c :: L) (.fn 156 [] []) [.ptr 0 0, .str x] Q := qbh (q6t c hk x) (qo _ _) (qo _ _) rfl rfl fun _ => h
theorem q0e (c : K) : qbq Tryz.prog 95 (curE c) (curE (qd c).1) [.ptr 0 0] (.bool (qd c).2) := by
 refine qk c0eo 1 (by simp) (by simp) ?_
 repeat' (first | refine vs_ ?_ | ((first | refine vr_ ?_ | refine qfp ?_ | refine qos ?_ | (refine cs_ ?_ ?_ <;> intro hc) | refine cj_ ?_ | simp (disch := omega) only [qb, qi]) <;> (try refine ev_ ?_)) | with_reducible exact ti_)
 ·rw [qy6 (qf8 (by assumption)), qms (qf8 (by assumption))]; exact ⟨rfl, rfl⟩
 ·rw [qt4 (qf1 (by assumption)) (by assumption)]; exact ⟨rfl, rfl⟩
 ·rw [qsm (qf1 (by assumption)) (by assumption), qf5 (by omega) (by unfold maxLen; omega)]; exact ⟨rfl, rfl⟩
theorem qf6 (h : Q (curE (qd c).1 :: L) (.val (.bool (qd c).2))) : VApp Tryz.prog (curE c :: L) (.fn 95 [] []) [.ptr 0 0] Q := qbh (q0e c) (qo _ _) (qo _ _) rfl rfl fun _ => h
theorem q4v (c : K) (hn : c.nest ≤ 200) : qbq Tryz.prog 98 (curE c) (curE (qcy c)) [.ptr 0 0] (.tup []) := by
 refine qk c0ep 1 (by simp) (by simp) ?_
 repeat' (first | refine vs_ ?_ | ((first | refine vr_ ?_ | refine qfp ?_ | (refine cs_ ?_ ?_ <;> intro hc) | refine cj_ ?_ | fail) <;> (try refine ev_ ?_)) | with_reducible exact ti_)
 ·rw [qs0 (qf1 (by assumption)) (by assumption), qf5 (by omega) (by unfold maxLen; omega)]
  simp only [List.cons.injEq, Ent.blk.injEq, AV.int.injEq, true_and, and_true]; omega
 ·rw [qbbj (qf1 (by assumption)) (by assumption)]
 ·rw [qyy (qf8 (by assumption))]
theorem qd7 (hn : c.nest ≤ 200) (h : Q (curE (qcy c) :: L) (.val (.tup []))) : VApp Tryz.prog (curE c :: L) (.fn 98 [] []) [.ptr 0 0] Q := qbh (q4v c hn) (qo _ _) (qo _ _) rfl rfl fun _ => h
theorem qln (c : K) (hk : c.ok) : qbq Tryz.prog 55 (curE c) (curE c) [.ptr 0 0] (.tup [.int .i64 (qiq c).1, .int .i64 (qiq c).2]) := by
 refine qk c0eq 1 (by simp) (by simp) ?_
 repeat' (first | refine vs_ ?_ | ((first | refine vr_ ?_ | simp (disch := omega) only [qe6] | (refine cs_ ?_ ?_ <;> intro hc) | refine cj_ ?_ | simp (disch := omega) only [qb, qi]) <;> (try refine ev_ ?_)) | with_reducible exact ti_)
 ·rw [q0w (by assumption)]
 ·rw [qwh (by assumption) (by assumption)]
 ·rw [qrw (by assumption) (by assumption)]
theorem qb1v (hk : c.ok) (h : Q (curE c :: L) (.val (.tup [.int .i64 (qiq c).1, .int .i64 (qiq c).2]))) : VApp Tryz.prog (curE c :: L) (.fn 55 [] []) [.ptr 0 0] Q := qbh (qln c hk) (qo _ _) (qo _ _) rfl rfl fun _ => h
end
set_option maxRecDepth 4000

def refC (c : K) : AV := .agg [.sl 4 (qc6 (c.l.drop c.at')), .int .i64 0, .int .i64 c.ep, .int .i64 0, .str [], .int .i64 c.nest, .int .i64 c.err, .int .i64 c.pos]
attribute [go_sem] refC
def qe7 : List T → List T
 | [] => []
 | t :: r => if t.kind = 0 then [] else t :: qe7 r
def endT : List T → Int
 | [] => 0
 | t :: r => if t.kind = 0 then t.pos else endT r
def newK (l : List T) : K := ⟨qe7 l, endT l, 0, 0, 0, 0⟩
theorem qh7 : ∀ l : List T, (qe7 l).length ≤ l.length
 | [] => Nat.le_refl _
 | t :: r => by
   rw [qe7]
   split
   ·exact Nat.zero_le _
   ·have := qh7 r; simp only [List.length_cons]; omega
theorem q02 {l : List T} {i : Nat} (h1 : ∀ t ∈ l.take i, t.kind ≠ 0) (h : i < l.length) (h2 : (l.getD i T0).kind = 0) : qe7 l = l.take i ∧ endT l = (l.getD i T0).pos := by
 induction l generalizing i with
 | nil => simp at h
 | cons t r ih =>
   cases i with
   | zero => simp only [List.getD_cons_zero] at h2 ⊢; rw [qe7, endT, if_pos h2, if_pos h2]; exact ⟨rfl, rfl⟩
   | succ i =>
     have ht := h1 t (by simp)
     obtain ⟨g1, g2⟩ := ih (fun u hu => h1 u (List.mem_cons_of_mem t hu)) (by simpa using h) (by simpa using h2)
     rw [qe7, endT, if_neg ht, if_neg ht, g1, g2]
     exact ⟨rfl, rfl⟩
theorem qzo {l : List T} (h1 : ∀ t ∈ l, t.kind ≠ 0) : qe7 l = l ∧ endT l = 0 := by
 induction l with
 | nil => exact ⟨rfl, rfl⟩
 | cons t r ih =>
   obtain ⟨g1, g2⟩ := ih fun u hu => h1 u (by simp [hu])
   rw [qe7, endT, if_neg (h1 t (by simp)), if_neg (h1 t (by simp)), g1, g2]
   exact ⟨rfl, rfl⟩
theorem qi4 {a : List T} {i : Nat} (h : i < a.length) {p : T → Prop} (h1 : ∀ t ∈ a.take i, p t) (h2 : p (a.getD i T0)) : ∀ t ∈ a.take (i + 1), p t := by
 intro t ht
 rw [List.take_add_one, List.getElem?_eq_getElem h] at ht
 rcases List.mem_append.1 ht with ht | ht
 ·exact h1 t ht
 ·simp only [Option.toList_some, List.mem_singleton] at ht
  subst ht
  rwa [List.getD_eq_getElem?_getD, List.getElem?_eq_getElem h] at h2
theorem qbxv (x : Ent) (es : List AV) : co (x :: accE 4 es) (.sl 4) (accV 1 es) = .sl 4 es := by
 cases es with
 | nil => rw [qbu, qpa]
 | cons e es =>
   rw [qcd (by simp), qse, qce (by simp)]
   simp only [ent, q2s, if_true]
def q23 (l : List T) (i : Nat) : AF × List Ent :=
 (⟨[(3, .ptr 0 0), (8, .sl 4 (qc6 l)), (9, .int .i64 l.length), (10, .int .i64 i)], []⟩,
   .blk [accV 1 (qc6 (l.take i)), .int .i64 0, .int .i64 0, .int .i64 0, .str [], .int .i64 0, .int .i64 0, .int .i64 0, .int .i64 0] :: accE 4 (qc6 (l.take i)))
theorem qst {l : List T} (h : l ≠ []) : qc6 l ≠ [] := by cases l with | nil => exact absurd rfl h | cons _ _ => simp [qc6]
theorem qx5 {l : List T} {i : Nat} (h : i < l.length) : l.take (i + 1) = l.take i ++ [l.getD i T0] := by
 rw [List.take_add_one, List.getElem?_eq_getElem h, List.getD_eq_getElem?_getD, List.getElem?_eq_getElem h]; rfl
theorem capT {n : Nat} (h : n ≤ 1048580) : qfo n 40 := by unfold qfo; omega
theorem qqf (l : List T) (hl : l.length ≤ 1048577) : VCalls Tryz.prog 53 [] [.sl 4 (qc6 l)] fun H' o => H' = [curE (newK l)] ∧ o = .val (.ptr 0 0) := by
 refine qk c0ef 1 (by simp) (by simp) ?_
 have hmx : (1048577 : Nat) ≤ maxLen := by unfold maxLen; omega
 repeat' (first | refine vs_ ?_ | ((first | refine vr_ ?_ | (refine cs_ ?_ ?_ <;> intro hc) | refine cj_ ?_ | simp (disch := omega) only [qb, qi]) <;> (try refine ev_ ?_)) | with_reducible exact ti_)
 refine qch (S := Nat) (fun i => i ≤ l.length ∧ ∀ t ∈ l.take i, t.kind ≠ 0) (q23 l) (fun i => l.length - i) ?_ fun i hi => ?_
 ·refine qbj 0 [0] ⟨Nat.zero_le _, by simp⟩ rfl (by simp) ?_ ?_ ?_ <;> simp only [q23, List.take_zero, qtv, qbu, qb0] <;> (try refine ev_ ?_) <;> (try with_reducible exact ti_) <;> (try simp (disch := omega) only [qi, and_true, true_and])
 ·obtain ⟨hi, ha⟩ := hi
  unfold q23
  by_cases hx : i < l.length ∧ (l.getD i T0).kind ≠ 0
  ·have hT : AV.agg [.int .i64 (l.getD i T0).kind, .int .i64 (l.getD i T0).pos, .int .i64 (l.getD i T0).num, .str (l.getD i T0).text] = encT (l.getD i T0) := rfl
   have hts := qx5 hx.1
   have hne : qc6 (l.take (i + 1)) ≠ [] := qst (by rw [hts]; simp)
   have hlen : (l.take (i + 1)).length = i + 1 := by rw [List.length_take]; omega
   by_cases h0 : i = 0
   ·subst h0
    simp only [List.take_zero, qtv, qbu, qb0]
    repeat' (first | refine vs_ ?_ | ((first | refine vr_ ?_ | simp (disch := omega) only [qe6] | (refine cs_ ?_ ?_ <;> intro hc) | refine cj_ ?_ | simp (disch := omega) only [qb, qi]) <;> (try refine ev_ ?_)) | with_reducible exact ti_)
    ·exact absurd (by assumption) hx.2
    ·refine qbj 1 [0, 2] ⟨⟨by omega, qi4 (by omega) ha hx.2⟩, by omega⟩ rfl (by simp) ?_ ?_ ?_
     all_goals simp only [q23, qcd hne, qce hne, qi8, hlen]
     all_goals (try simp only [Nat.zero_add] at hts)
     all_goals simp only [hts, List.take_zero, List.nil_append]
     all_goals (refine ev_ ?_; (try with_reducible exact ti_))
     all_goals first | exact ⟨rfl, rfl⟩ | exact congrArg _ (by decide) | rfl | trace_state
    ·omega
   ·have hne0 : qc6 (l.take i) ≠ [] := qst (by intro e; have := congrArg List.length e; simp only [List.length_take, List.length_nil] at this; omega)
    have hli : (l.take i).length = i := by rw [List.length_take]; omega
    simp only [qcd hne0, qce hne0, qi8]
    have hat : ∀ ac : List T, ac = l.take i → qc6 ac ++ [encT (l.getD i T0)] = qc6 (l.take (i + 1)) := fun ac e => by rw [e, qnf, hts]
    generalize hac : l.take i = ac at *
    have hcap : qfo (ac.length + 1) 40 := capT (by omega)
    have hil : (i : Int) < l.length := by omega
    have hkd := hx.2
    repeat' (first | refine vs_ ?_ | ((first | refine vr_ ?_ | fail) <;> (try simp (disch := first | omega | (simp only [List.length_set, List.length_append, List.length_cons, List.length_nil]; done) | (simp only [List.length_set, List.length_append, List.length_cons, List.length_nil]; omega)) only [hil, hkd, qe6, ne_eq, go_sem, ↓reduceIte])) | ((first | (refine cs_ ?_ ?_ <;> intro hc) | refine cj_ ?_ | simp (disch := omega) only [qb, qi]) <;> (try refine ev_ ?_)) | with_reducible exact ti_)
    ·refine qbj (i + 1) [0, 3] ⟨⟨by omega, qi4 (by omega) (by rw [hac]; exact ha) hx.2⟩, by omega⟩ rfl (by simp) ?_ ?_ ?_
     all_goals simp only [q23, qcd hne, qce hne, qi8, hlen]
     all_goals rw [← hat ac rfl]
     all_goals (skip <;> (try refine ev_ ?_) <;> (try with_reducible exact ti_) <;> (try simp (disch := omega) only [qi, and_true, true_and]))
     rw [hli, qnf ac, qmu]
     exact ⟨rfl, qjq _ _, rfl⟩
  ·refine qz2 0 0 (.sl 4) rfl ?_
   simp only [List.set_cons_zero, List.getD_cons_zero, qbxv]
   repeat' (first | refine vs_ ?_ | ((first | refine vr_ ?_ | simp (disch := omega) only [qe6] | (refine cs_ ?_ ?_ <;> intro hc) | refine cj_ ?_ | simp (disch := omega) only [qb, qi]) <;> (try refine ev_ ?_)) | with_reducible exact ti_)
   ·obtain ⟨g1, g2⟩ := q02 ha (by omega) (by assumption)
    rw [newK, g1, g2]; rfl
   ·exact hx ⟨by omega, by assumption⟩
   ·rw [List.take_of_length_le (by omega)] at ha ⊢
    obtain ⟨g1, g2⟩ := qzo ha
    rw [newK, g1, g2]; rfl
end Go.Proofs.YtlmcofjcpadmiaaGreat
