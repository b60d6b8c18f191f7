/- Texts of this proof, joined. -/
import Derived.Test.YtfjbmjplnmaclaaGreatQau
import Derived.Test.YtfjbmjplnmaclaaGreatQaw

/- the cursor: in other places; texts; trees that are whole -/
namespace Go.Proofs.YtfjbmjplnmaclaaGreat
open Go Go.RowKit Go.V
set_option linter.unusedVariables false
set_option linter.unusedSimpArgs false

section
variable {P : Program} {f : FuncId} {e e' : Ent} {L : List Ent} {args0 args : List AV} {r : AV} {Q : List Ent → VO → Prop}
theorem q2o (k : Nat) (h : qce P f e e' args0 r) (hk : L[k]? = some e) (hb : e.bd 0 = true) (hb' : e'.bd 0 = true) (ha : AV.bds 1 args0 = true) (hr : r.bd 0 = true) (hs : AV.rens (sg [k]) args0 = args) (hq : r.wf → Q (L.set k e') (.val r)) :
 VApp P L (.fn f [] []) args Q :=
 qcd (first := []) (caps := []) (by
  simp only [List.nil_append, List.append_nil]
  rw [← hs]
  have hlt : k < L.length := (List.getElem?_eq_some_iff.1 hk).1
  refine qhu (H0 := [e]) [k] (h.mono' (Q' := fun H' o => (H' = [e'] ∧ o = .val r) ∧ r.wf) fun H' o hw ho => ⟨ho, by have := ho.2; subst this; exact hw⟩) (by simp) (by simpa using hlt) rfl ?_ ha ?_
  ·intro j e2 hj
   obtain rfl : j = 0 := by have := (List.getElem?_eq_some_iff.1 hj).1; simp at this; omega
   simp only [List.getElem?_cons_zero, Option.some.injEq] at hj
   subst hj
   exact .inr ⟨Ent.bd_le (Nat.zero_le _) _ hb, by rw [Ent.ren_same (m := 0) (fun i hi => by omega) _ hb]; exact hk⟩
  ·rintro H1 o ⟨⟨rfl, rfl⟩, hw⟩
   have h1 : e'.ren (sg' [k] L.length) = e' := Ent.ren_same (m := 0) (fun i hi => by omega) _ hb'
   have h2 : r.ren (sg' [k] L.length) = r := ren_same (m := 0) (fun i hi => by omega) _ hr
   simp only [List.length_cons, List.length_nil, List.take_succ_cons, List.take_zero, List.map_cons, List.map_nil, qbw, h1, VO.ren, h2, List.drop_succ_cons, List.drop_nil, List.append_nil]
   exact hq hw)
theorem qbf2 (h : VCalls P f [] args fun H' o => H' = [e] ∧ o = .val (.ptr 0 0)) (hb : e.bd 0 = true) (ha : AV.bds 0 args = true) (hq : Q (L ++ [e]) (.val (.ptr L.length 0))) : VApp P L (.fn f [] []) args Q :=
 qcd (first := []) (caps := []) (by
  simp only [List.nil_append, List.append_nil]
  have hs : AV.rens (sg []) args = args := qco (m := 0) (fun i hi => by omega) _ ha
  rw [← hs]
  refine qhu (H0 := []) [] h (by simp) (by simp) rfl (fun j e2 hj => by simp at hj) ha ?_
  rintro H1 o ⟨rfl, rfl⟩
  have h1 : e.ren (sg' [] L.length) = e := Ent.ren_same (m := 0) (fun i hi => by omega) _ hb
  simp only [List.length_nil, List.take_zero, List.map_nil, qbw, List.drop_zero, List.map_cons, h1, VO.ren, AV.ren, sg', Nat.not_lt_zero, if_false, Nat.sub_zero, Nat.add_zero]
  exact hq)
end
theorem qlx (s : List UInt8) : (lexV s).1.length ≤ 1048577 ∧ (lexV s).1.length ≤ s.length + 1 := by
 by_cases h : 1048576 < (s.length : Int)
 ·rw [qpz h]; simp
 ·have hll : (lexG s (qc4 s)).1.length ≤ s.length := by have := qwu (s := s) (s.length - qc4 s) (qc4 s); unfold lexG; omega
  by_cases he : (lexG s (qc4 s)).2.2 = 0
  ·rw [qrx h he]; simp only [List.length_append, List.length_cons, List.length_nil]; omega
  ·rw [qna h he]; simp
theorem q4v {n : N} (h : sz n ≤ 1000000) : (qeo (fun (k : Int) l _ => (if l > k then l else k, true)) n 1 0).1 = depR n := by
 show (qeo dpF n 1 0).1 = depR n
 rw [qbow n 1 0 (by omega) (by omega), qbaa n (by omega)]
 have := qbbm n
 simp only; omega

/-! The cursor: it has gone on, if it has gone; a failure stays. -/
def K.good (c : K) : Prop := c.at' ≤ c.l.length ∧ c.l.length ≤ 1048577 ∧ c.nest ≤ 200
def rest (c : K) : Nat := c.l.length - c.at'
theorem K.good.ok {c : K} (h : c.good) : c.ok := ⟨h.1, Nat.le_trans h.2.1 (by unfold maxLen; omega)⟩
theorem K.good.rest {c : K} (h : c.good) : c.l.length - c.at' ≤ 1048577 := by have := h.2.1; omega
theorem capN {n : Nat} (h : n ≤ 1048580) : qdq n 64 := by unfold qdq; omega
def Wi (B : Int) (c : K) : Prop := (∀ t ∈ c.l, 0 ≤ t.pos ∧ t.pos ≤ B) ∧ 0 ≤ c.ep ∧ c.ep ≤ B ∧ (c.err ≠ 0 → 0 ≤ c.pos ∧ c.pos ≤ B ∧ (c.err = 2 ∨ c.err = 5))
def Mon (c c' : K) : Prop := (c.good → c'.good) ∧ rest c' ≤ rest c ∧ (c.err ≠ 0 → c'.err = c.err) ∧ c'.l = c.l ∧ ∀ B, Wi B c → Wi B c'
theorem Mon.refl (c : K) : Mon c c := ⟨id, Nat.le_refl _, fun _ => rfl, rfl, fun _ h => h⟩
theorem Mon.trans {a b c : K} (h : Mon a b) (k : Mon b c) : Mon a c := ⟨fun g => k.1 (h.1 g), Nat.le_trans k.2.1 h.2.1, fun e => (k.2.2.1 (by rw [h.2.2.1 e]; exact e)).trans (h.2.2.1 e), k.2.2.2.1.trans h.2.2.2.1, fun B g => k.2.2.2.2 B (h.2.2.2.2 B g)⟩
def em (c : K) : Nat := if c.err = 0 then rest c + 1 else 0
theorem Mon.em {c c' : K} (h : Mon c c') : em c' ≤ em c := by
 unfold Go.Proofs.YtfjbmjplnmaclaaGreat.em
 have := h.2.1
 split
 ·split
  ·omega
  ·rename_i h1 h2; exact absurd h1 (by rw [h.2.2.1 h2]; exact h2)
 ·omega
theorem qgo (c : K) : em c ≤ rest c + 1 := by unfold em; split <;> omega
theorem qchj {c : K} (h : c.err ≠ 0) : em c = 0 := if_neg h
theorem qbtu {c : K} (h : c.err = 0) : em c = rest c + 1 := if_pos h
theorem qg1 (c : K) {e : Int} : (qdh c e).err ≠ 0 := by
 unfold qdh
 split
 ·simp only; split
  ·simp
  ·assumption
 ·assumption
theorem qbo (c : K) : Mon c (qu c) := by
 unfold qu
 split
 ·split
  ·exact ⟨fun h => ⟨by simp only; omega, h.2⟩, by unfold rest; simp only; omega, fun _ => rfl, rfl, fun _ h => h⟩
  ·exact Mon.refl c
 ·exact Mon.refl c
theorem qb8f {B : Int} {c : K} (h : Wi B c) (he : c.err = 0) : 0 ≤ (qq c).pos ∧ (qq c).pos ≤ B := by
 by_cases hl : c.at' < c.l.length
 ·rw [qm0 he (by omega)]
  refine h.1 _ ?_
  rw [List.getD_eq_getElem?_getD, List.getElem?_eq_getElem hl]
  exact List.getElem_mem hl
 ·rw [qq3 he (by omega)]
  exact ⟨h.2.1, h.2.2.1⟩
theorem qeg (c : K) (e : Int) (he : e = 2 ∨ e = 5 := by decide) : Mon c (qdh c e) := by
 refine ⟨?_, ?_, fun h => by rw [qfd h], ?_, ?_⟩
 ·unfold qdh; split <;> exact id
 ·unfold qdh; split <;> exact Nat.le_refl _
 ·unfold qdh; split <;> rfl
 ·intro B h
  unfold qdh
  split
  ·rename_i h0
   have h1 := qb8f h h0
   refine ⟨h.1, h.2.1, h.2.2.1, fun _ => ⟨h1.1, h1.2, ?_⟩⟩
   simp only
   rw [if_neg (by omega)]; exact he
  ·exact h
theorem qm (c : K) : Mon c (qc c).1 := by
 unfold qc
 split
 ·split
  ·rename_i h1; exact ⟨fun h => ⟨h.1, h.2.1, by simp only; omega⟩, Nat.le_refl _, fun _ => rfl, rfl, fun _ h => h⟩
  ·exact qeg c 2
 ·exact Mon.refl c
theorem qbv (c : K) : Mon c (qcj c) := by
 unfold qcj
 split
 ·split
  ·exact ⟨fun h => ⟨h.1, h.2.1, by have := h.2.2; simp only; omega⟩, Nat.le_refl _, fun _ => rfl, rfl, fun _ h => h⟩
  ·exact Mon.refl c
 ·exact Mon.refl c
theorem qk (c : K) (x : List UInt8) : Mon c (qf c x).1 := by
 unfold qf
 split
 ·exact qbo c
 ·exact Mon.refl c
theorem qd (c : K) (x : List UInt8) : Mon c (qi c x).1 := by
 unfold qi
 split
 ·exact qbo c
 ·exact qeg c 5
theorem qe5 {c : K} (h : (qq c).kind ≠ 0) : c.err = 0 ∧ c.at' < c.l.length := by
 unfold qq at h
 split at h
 ·rename_i h1
  split at h
  ·rename_i h2; exact ⟨h1, h2⟩
  ·exact absurd rfl h
 ·exact absurd rfl h
theorem qbk {c : K} (h : (qq c).kind ≠ 0) : rest (qu c) + 1 = rest c := by
 obtain ⟨h1, h2⟩ := qe5 h
 rw [qvw h1 (by omega)]
 unfold rest; simp only; omega
theorem qdu {c : K} {x : List UInt8} (h : isK c x = true) : (qq c).kind ≠ 0 := by
 simp only [isK, qka, Bool.and_eq_true, Bool.or_eq_true, decide_eq_true_eq] at h
 omega
theorem q0h {c : K} {x : List UInt8} (h : isK c x = true) : c.err = 0 := by
 simp only [isK, Bool.and_eq_true, decide_eq_true_eq] at h
 exact h.1
theorem qyr {c : K} (h : (qc c).2 = true) : c.err = 0 ∧ (qc c).1.err = 0 ∧ (qc c).1 = { c with nest := c.nest + 1 } := by
 unfold qc at h ⊢
 split at h
 ·rename_i h1
  split at h
  ·rename_i h2; rw [if_pos h1, if_pos h2]; exact ⟨h1, h1, rfl⟩
  ·cases h
 ·cases h
theorem qe7 {c : K} (h : (qc c).2 = true) : qq (qc c).1 = qq c := by rw [(qyr h).2.2]; rfl
theorem qpx {c : K} {x : List UInt8} (h : (qc c).2 = true) : isK (qc c).1 x = isK c x := by rw [(qyr h).2.2]; rfl
theorem qg5 {c : K} (h : (qc c).2 = false) : (qc c).1.err ≠ 0 := by
 unfold qc at h ⊢
 split at h
 ·rename_i h1
  split at h
  ·cases h
  ·rename_i h2; rw [if_pos h1, if_neg h2]; exact qg1 c
 ·rename_i h1; rw [if_neg h1]; exact h1
theorem qdp {c : K} {x : List UInt8} (h : (qi c x).2 = false) : (qi c x).1.err ≠ 0 := by
 unfold qi at h ⊢
 split at h
 ·cases h
 ·rename_i h1; rw [if_neg h1]; exact qg1 c
theorem qcn {c : K} (h : c.err ≠ 0) : qcj c = c := if_neg h
theorem q1q {c : K} {x : List UInt8} (h : c.err ≠ 0) : isK c x = false := by
 simp only [isK, decide_eq_false h, Bool.false_and]
theorem qbu {c : K} {x : List UInt8} (h : c.err ≠ 0) : qi c x = (c, false) := by
 rw [qi, if_neg (by rw [q1q h]; simp), qfd h]
theorem qe2 {c : K} {x : List UInt8} (h : c.err ≠ 0) : qf c x = (c, false) := qsa (q1q h)
theorem qqe {c : K} {x : List UInt8} (h : isK c x = true) : qi c x = (qu c, true) := if_pos h

/-! Types: the program. -/
def begT (c : K) : Bool := decide ((qq c).kind = 1) || decide ((qq c).kind = 2) || isK c [40]
def qie (c : K) (k : Int) (ks : List N) : N := .mk k (qq c).pos 0 (qq c).text ks
def qbz (rec : K → K × Option N) (c : K) : K × Option N :=
 if (qq c).kind = 1 then (qu c, some (qie c 1 []))
 else if (qq c).kind = 2 then (qu c, some (qie c 2 []))
 else if isK c [40] = true then
  if (qc c).2 = true then
   if (rec (qu (qc c).1)).2.isSome = true then
    (qcj (qi (rec (qu (qc c).1)).1 [41]).1, if (qi (rec (qu (qc c).1)).1 [41]).2 = true then (rec (qu (qc c).1)).2 else none)
   else (qcj (rec (qu (qc c).1)).1, none)
  else ((qc c).1, none)
 else (qdh c 5, none)
def qef (rec : K → K × Option N) : Nat → K → List N → K × Option (List N)
 | 0, c, acc => (c, none)
 | f + 1, c, acc =>
   if begT c = true then
    if (qbz rec c).2.isSome = true then qef rec f (qbz rec c).1 (acc ++ [(qbz rec c).2.getD N0])
    else ((qbz rec c).1, none)
   else (c, some acc)
def qch (rec : K → K × Option N) (c : K) : K × Option N :=
 if (qq c).kind = 2 then ((qef rec (rest c + 1) (qu c) []).1, (qef rec (rest c + 1) (qu c) []).2.map (qie c 2))
 else qbz rec c
def qi2 (n m : N) : N := .mk 2 n.pos 0 [45, 62] [n, m]
def qb3 : Nat → K → K × Option N
 | 0, c => (c, none)
 | f + 1, c =>
   if (qc c).2 = true then
    if (qch (qb3 f) (qc c).1).2.isSome = true then
     if (qf (qch (qb3 f) (qc c).1).1 [45, 62]).2 = true then
      (qcj (qb3 f (qf (qch (qb3 f) (qc c).1).1 [45, 62]).1).1, (qb3 f (qf (qch (qb3 f) (qc c).1).1 [45, 62]).1).2.map (qi2 ((qch (qb3 f) (qc c).1).2.getD N0)))
     else (qcj (qch (qb3 f) (qc c).1).1, (qch (qb3 f) (qc c).1).2)
    else (qcj (qch (qb3 f) (qc c).1).1, none)
   else ((qc c).1, none)
section
variable {rec : K → K × Option N} (hm : ∀ c, Mon c (rec c).1)
include hm
theorem qey (c : K) : Mon c (qbz rec c).1 := by
 unfold qbz
 split
 ·exact qbo c
 ·split
  ·exact qbo c
  ·split
   ·split
    ·have h1 := ((qm c).trans (qbo _)).trans (hm _)
     split
     ·exact (h1.trans (qd _ _)).trans (qbv _)
     ·exact h1.trans (qbv _)
    ·exact qm c
   ·exact qeg c 5
theorem qd9 {c : K} (h : (qbz rec c).2.isSome = true) : rest (qbz rec c).1 < rest c := by
 unfold qbz at h ⊢
 split at h
 ·rename_i h1; rw [if_pos h1]; have := qbk (c := c) (by omega); simp only; omega
 ·rename_i h1
  rw [if_neg h1]
  split at h
  ·rename_i h2; rw [if_pos h2]; have := qbk (c := c) (by omega); simp only; omega
  ·rename_i h2
   rw [if_neg h2]
   split at h
   ·rename_i hk
    rw [if_pos hk]
    split at h
    ·rename_i he
     rw [if_pos he]
     have hp := qbk (c := (qc c).1) (by rw [qe7 he]; exact qdu hk)
     have h0 := (qm c).2.1
     have h1 := (hm (qu (qc c).1)).2.1
     split at h
     ·rename_i hr
      rw [if_pos hr]
      have h2 := (qd (rec (qu (qc c).1)).1 [41]).2.1
      have h3 := (qbv (qi (rec (qu (qc c).1)).1 [41]).1).2.1
      simp only; omega
     ·cases h
    ·cases h
   ·cases h
theorem qjs : ∀ (f : Nat) (c : K) (acc : List N), Mon c (qef rec f c acc).1
 | 0, c, acc => Mon.refl c
 | f + 1, c, acc => by
   rw [qef]
   split
   ·split
    ·exact (qey hm c).trans (qjs f _ _)
    ·exact qey hm c
   ·exact Mon.refl c
theorem qt7 (c : K) : Mon c (qch rec c).1 := by
 unfold qch
 split
 ·exact (qbo c).trans (qjs hm _ _ _)
 ·exact qey hm c
theorem q1l {c : K} (h : (qch rec c).2.isSome = true) : rest (qch rec c).1 < rest c := by
 unfold qch at h ⊢
 split at h
 ·rename_i h1
  rw [if_pos h1]
  have := qbk (c := c) (by omega)
  have := (qjs hm (rest c + 1) (qu c) []).2.1
  simp only; omega
 ·rename_i h1
  rw [if_neg h1]
  exact qd9 hm h
end
theorem qcy : ∀ (f : Nat) (c : K), Mon c (qb3 f c).1
 | 0, c => Mon.refl c
 | f + 1, c => by
   have hr := (qm c).trans (qt7 (qcy f) (qc c).1)
   rw [qb3]
   split
   ·split
    ·split
     ·exact ((hr.trans (qk _ _)).trans (qcy f _)).trans (qbv _)
     ·exact hr.trans (qbv _)
    ·exact hr.trans (qbv _)
   ·exact qm c
theorem qbae {c : K} (h : begT c = true) : c.err = 0 := by
 simp only [begT, Bool.or_eq_true, decide_eq_true_eq] at h
 rcases h with (h | h) | h
 ·exact (qe5 (by omega)).1
 ·exact (qe5 (by omega)).1
 ·exact q0h h
theorem qwd {c : K} (h : c.err ≠ 0) : begT c = false := by
 cases hb : begT c with
 | false => rfl
 | true => exact absurd (qbae hb) h
set_option maxRecDepth 4000

def resP (r : Option N) : AV := .tup [enc (r.getD N0), .bool r.isSome]
attribute [go_sem] resP
theorem qcab (k : Nat) (r : Option N) : (resP r).bd k = true := by simp only [resP, AV.bd, AV.bds, qo0, Bool.and_true]
theorem qcs {P : Program} {f : FuncId} {c c' : K} {L : List Ent} {args : List AV} {r : Option N} {Q : List Ent → VO → Prop} (h : qce P f (curE c) (curE c') args (resP r)) (ha : AV.bds 1 args = true) (hq : Q (curE c' :: L) (.val (resP r))) : VApp P (curE c :: L) (.fn f [] []) args Q :=
 qb9 h (qbi _ _) (qbi _ _) ha (qcab _ _) fun _ => hq
theorem qdt : AV.agg [.int .i64 0, .int .i64 0, .int .i64 0, .str [], .sl 5 []] = enc N0 := by simp [N0, enc, encs]
def qob (n : N) (b : Bool) : Option N := if b = true then some n else none
theorem qbmu (n : N) : qob n false = none := rfl
theorem q8u {r : Option N} {b : Bool} (h : r.isSome = true) : qob (r.getD N0) b = if b = true then r else none := by
 cases r with
 | none => cases h
 | some n => rfl
theorem qbia (c : K) (n : N) (b : Bool) : qce Tryz.prog 106 (curE c) (curE c) [.ptr 0 0, enc n, .bool b] (resP (qob n b)) := by
 refine qp c0cc 1 (by simp) (by simp) ?_
 repeat' (first | refine vs_ ?_ | ((first | refine vr_ ?_ | (refine cs_ ?_ ?_ <;> intro hc) | refine cj_ ?_ | fail) <;> (try refine ev_ ?_)) | with_reducible exact ti_)
 all_goals (unfold qob; simp_all [qdt])
theorem qza {c : K} {L : List Ent} {n : N} {b : Bool} {Q : List Ent → VO → Prop} (hq : Q (curE c :: L) (.val (resP (qob n b)))) : VApp Tryz.prog (curE c :: L) (.fn 106 [] []) [.ptr 0 0, enc n, .bool b] Q := qcs (qbia c n b) (by simp only [AV.bds, AV.bd, qo0]; rfl) hq
theorem q1m {c : K} {L : List Ent} {n m : N} {b : Bool} {Q : List Ent → VO → Prop} (hq : Q (curE c :: L) (.val (resP (qob (qi2 n m) b)))) :
 VApp Tryz.prog (curE c :: L) (.fn 106 [] []) [.ptr 0 0, .agg [.int .i64 2, .int .i64 n.pos, .int .i64 0, .str [45, 62], .sl 5 [enc n, enc m]], .bool b] Q := by
 have h := qza (n := qi2 n m) hq
 simpa only [qi2, enc, encs] using h
theorem qv1 {r : Option N} {g : N → N} : qob (g (r.getD N0)) r.isSome = r.map g := by cases r <;> rfl
theorem q4b {r : Option N} {n : N} : qob (qi2 n (r.getD N0)) r.isSome = r.map (qi2 n) := qv1
theorem qc2 {c : K} {x : List UInt8} (h : (qf c x).2 = false) : (qf c x).1 = c := by
 unfold qf at *
 split at h
 ·cases h
 ·rename_i h1; rw [if_neg h1]
theorem q42 (c : K) : qce Tryz.prog 149 (curE c) (curE c) [.ptr 0 0] (.bool (begT c)) := by
 refine qp c0cd 1 (by simp) (by simp) ?_
 repeat' (first | refine vs_ ?_ | ((first | refine vr_ ?_ | refine qb6 ?_ | refine a_Is ?_ | (refine cs_ ?_ ?_ <;> intro hc) | refine cj_ ?_ | fail) <;> (try refine ev_ ?_)) | with_reducible exact ti_)
 all_goals (unfold begT; simp_all)
theorem qbmy {c : K} {L : List Ent} {Q : List Ent → VO → Prop} (hq : Q (curE c :: L) (.val (.bool (begT c)))) : VApp Tryz.prog (curE c :: L) (.fn 149 [] []) [.ptr 0 0] Q := qb9 (q42 c) (qbi _ _) (qbi _ _) rfl rfl fun _ => hq
theorem q9 {l : List N} (h : l ≠ []) : encs l ≠ [] := by cases l with | nil => exact absurd rfl h | cons _ _ => simp [encs]
def q82 (p : Int) (t : List UInt8) (c : K) (acc : List N) : AF × List Ent :=
 (⟨[(0, .ptr 0 0), (2, .ptr 1 0), (5, .ptr 2 0)], []⟩,
   curE c :: .blk [.int .i64 0, .int .i64 0, .int .i64 0, .str [], .nils] :: .blk [.int .i64 2, .int .i64 p, .int .i64 0, .str t, accV 3 (encs acc)] :: accE 5 (encs acc))
section
variable {rec : K → K × Option N} {b : Nat} (hm : ∀ c, Mon c (rec c).1) (ih : ∀ c, c.good → rest c < b → qce Tryz.prog 104 (curE c) (curE (rec c).1) [.ptr 0 0] (resP (rec c).2))
include hm ih
theorem qi8 (c : K) (hg : c.good) (hr : rest c ≤ b) : qce Tryz.prog 63 (curE c) (curE (qbz rec c).1) [.ptr 0 0] (resP (qbz rec c).2) := by
 have g1 : (qc c).1.good := (qm c).1 hg
 have g2 : (qu (qc c).1).good := (qbo _).1 g1
 have g3 : (rec (qu (qc c).1)).1.good := (hm _).1 g2
 have g4 : (qi (rec (qu (qc c).1)).1 [41]).1.good := (qd _ _).1 g3
 have hrr : isK c [40] = true → (qc c).2 = true → rest (qu (qc c).1) < b := fun h1 h2 => by
  have := qbk (c := (qc c).1) (by rw [qe7 h2]; exact qdu h1)
  have := (qm c).2.1
  omega
 refine qp c0ce 1 (by simp) (by simp) ?_
 repeat' (first | refine vs_ ?_ | ((first | refine vr_ ?_ | refine qb6 ?_ | refine a_Is ?_ | refine qud ?_ | refine qi1 ?_ | refine qlf hg.ok ?_ | refine qlf g1.ok ?_ | refine qcs (ih _ g2 (hrr (by assumption) (by assumption))) rfl ?_ | refine qcf g3.ok ?_ | refine qgn g4.2.2 ?_ | refine qgn g3.2.2 ?_ | refine qza ?_ | (refine cs_ ?_ ?_ <;> intro hc) | refine cj_ ?_ | fail) <;> (try refine ev_ ?_)) | with_reducible exact ti_)
 all_goals (try simp only [q8u (r := (rec (qu (qc c).1)).2) (by assumption)])
 all_goals (try simp only [qbmu])
 all_goals (unfold qbz qie; simp only [*, qdt, Int.reduceEq, if_true, if_false, reduceIte, Bool.false_eq_true, Option.getD_none, Option.getD_some, Option.isSome_none, Option.isSome_some, and_self, true_and, and_true]; try rfl)
theorem qbuf (c : K) (hg : c.good) (hr : rest c ≤ b) : qce Tryz.prog 138 (curE c) (curE (qch rec c).1) [.ptr 0 0] (resP (qch rec c).2) := by
 refine qp c0cf 1 (by simp) (by simp) ?_
 by_cases hk : (qq c).kind = 2
 ·have g1 : (qu c).good := (qbo _).1 hg
  have hpa : qch rec c = ((qef rec (rest c + 1) (qu c) []).1, (qef rec (rest c + 1) (qu c) []).2.map (qie c 2)) := by rw [qch, if_pos hk]
  rw [hpa]
  clear hpa
  generalize htg : qef rec (rest c + 1) (qu c) [] = tg
  have hmt : Mon (qu c) tg.1 := htg ▸ qjs hm _ _ _
  have hrn := qbk (c := c) (by omega)
  repeat' (first | refine vs_ ?_ | ((first | refine vr_ ?_ | fail) <;> (try simp only [hk, Int.reduceEq, go_sem, ↓reduceIte])) | ((first | (refine cs_ ?_ ?_ <;> intro hc) | refine cj_ ?_ | fail | refine qb6 ?_ | refine qlf hg.ok ?_) <;> (try refine ev_ ?_)) | with_reducible exact ti_)
  refine qbm (S := Nat × K × List N) (fun x => x.2.1.good ∧ rest x.2.1 ≤ b ∧ qef rec x.1 x.2.1 x.2.2 = tg ∧ rest x.2.1 < x.1 ∧ x.2.2.length + rest x.2.1 ≤ 1048577)
   (fun x => q82 (qq c).pos (qq c).text x.2.1 x.2.2) (fun x => rest x.2.1 + 1) ?_ ?_
  ·refine q8 (rest c + 1, qu c, []) [0, 1, 3] ⟨g1, by simp only; omega, htg, by simp only; omega, ?_⟩ rfl (by simp) ?_ ?_ ?_
   ·have h9 := g1.rest
    unfold rest
    simp only [List.length_nil]
    omega
   all_goals simp only [q82, encs, qr, qt]
   all_goals (refine ev_ ?_; (try with_reducible exact ti_))
  ·rintro ⟨fu, d, acc⟩ ⟨i1, i2, i3, i4, i5⟩
   simp only at i1 i2 i3 i4 i5
   unfold q82
   obtain ⟨fu, rfl⟩ : ∃ k, fu = k + 1 := ⟨fu - 1, by omega⟩
   rw [qef] at i3
   have hcap : qdq (acc.length + 1) 64 := capN (by omega)
   have j1 : (qbz rec d).1.good := (qey hm d).1 i1
   have j2 : rest (qbz rec d).1 ≤ rest d := (qey hm d).2.1
   by_cases h0 : acc = []
   ·subst h0
    simp only [encs, qr, qt]
    repeat' (first | refine vs_ ?_ | ((first | refine vr_ ?_ | refine qbmy ?_ | refine qcs (qi8 hm ih _ i1 i2) rfl ?_ | (refine cs_ ?_ ?_ <;> intro hc) | refine cj_ ?_ | fail) <;> (try refine ev_ ?_)) | with_reducible exact ti_)
    ·have hb : begT d = true := by assumption
     have hs : (qbz rec d).2.isSome = false := by assumption
     rw [if_pos hb, if_neg (by rw [hs]; simp)] at i3
     subst i3
     exact ⟨rfl, by rw [qdt]; rfl⟩
    ·have hb : begT d = true := by assumption
     have hs : (qbz rec d).2.isSome = true := by assumption
     rw [if_pos hb, if_pos hs] at i3
     have hlt := qd9 hm hs
     refine q8 (fu, (qbz rec d).1, [] ++ [(qbz rec d).2.getD N0]) [0, 1, 2, 4] ⟨⟨j1, by simp only; omega, i3, by simp only; omega, ?_⟩, by simp only; omega⟩ rfl (by simp) ?_ ?_ ?_
     ·simp only [List.length_append, List.length_cons, List.length_nil]; omega
     all_goals simp only [q82, ← qe, qbs, qbr, List.nil_append, encs, qby, qbx]
     all_goals (refine ev_ ?_; (try with_reducible exact ti_))
    ·have hb : begT d = false := by assumption
     rw [if_neg (by rw [hb]; simp)] at i3
     subst i3
     simp only [Option.map_some, Option.getD_some, Option.isSome_some, enc, encs, qie, and_self]
   ·have hne := q9 h0
    simp only [qbd hne, qbc hne, qx]
    repeat' (first | refine vs_ ?_ | ((first | refine vr_ ?_ | refine qbmy ?_ | refine qcs (qi8 hm ih _ i1 i2) rfl ?_ | (refine cs_ ?_ ?_ <;> intro hc) | refine cj_ ?_ | fail) <;> (try refine ev_ ?_)) | with_reducible exact ti_)
    ·have hb : begT d = true := by assumption
     have hs : (qbz rec d).2.isSome = false := by assumption
     rw [if_pos hb, if_neg (by rw [hs]; simp)] at i3
     subst i3
     exact ⟨rfl, by rw [qdt]; rfl⟩
    ·have hb : begT d = true := by assumption
     have hs : (qbz rec d).2.isSome = true := by assumption
     rw [if_pos hb, if_pos hs] at i3
     have hlt := qd9 hm hs
     refine q8 (fu, (qbz rec d).1, acc ++ [(qbz rec d).2.getD N0]) [0, 1, 2, 5] ⟨⟨j1, by simp only; omega, i3, by simp only; omega, ?_⟩, by simp only; omega⟩ rfl (by simp) ?_ ?_ ?_
     ·simp only [List.length_append, List.length_cons, List.length_nil]; omega
     all_goals simp only [q82, ← qe, qbs, qbr, List.nil_append, encs, qby, qbx]
     all_goals (refine ev_ ?_; (try with_reducible exact ti_))
     rw [qe, qo, qbb]; exact ⟨rfl, rfl⟩
    ·have hb : begT d = false := by assumption
     rw [if_neg (by rw [hb]; simp)] at i3
     subst i3
     simp only [Option.map_some, Option.getD_some, Option.isSome_some, enc, encs, qie, and_self]
 ·repeat' (first | refine vs_ ?_ | ((first | refine vr_ ?_ | fail) <;> (try simp only [hk, go_sem, ↓reduceIte])) | ((first | (refine cs_ ?_ ?_ <;> intro hc) | refine cj_ ?_ | fail | refine qb6 ?_ | refine qcs (qi8 hm ih c hg hr) rfl ?_) <;> (try refine ev_ ?_)) | with_reducible exact ti_)
  rw [qch, if_neg hk]; exact ⟨rfl, rfl⟩
end
theorem qz4 {f : Nat} (ih : ∀ c, c.good → rest c < f → qce Tryz.prog 104 (curE c) (curE (qb3 f c).1) [.ptr 0 0] (resP (qb3 f c).2)) (c : K) (hg : c.good) (hr : rest c < f + 1) :
 qce Tryz.prog 104 (curE c) (curE (qb3 (f + 1) c).1) [.ptr 0 0] (resP (qb3 (f + 1) c).2) := by
 have hm := qcy f
 have g1 : (qc c).1.good := (qm c).1 hg
 have hr1 : rest (qc c).1 ≤ f := by have := (qm c).2.1; omega
 have hrow := qbuf hm ih _ g1 hr1
 have mrow := qt7 hm (qc c).1
 have lrow := q1l hm (c := (qc c).1)
 have hpa : qb3 (f + 1) c = if (qc c).2 = true then
  if (qch (qb3 f) (qc c).1).2.isSome = true then
   if (qf (qch (qb3 f) (qc c).1).1 [45, 62]).2 = true then
    (qcj (qb3 f (qf (qch (qb3 f) (qc c).1).1 [45, 62]).1).1, (qb3 f (qf (qch (qb3 f) (qc c).1).1 [45, 62]).1).2.map (qi2 ((qch (qb3 f) (qc c).1).2.getD N0)))
   else (qcj (qch (qb3 f) (qc c).1).1, (qch (qb3 f) (qc c).1).2)
  else (qcj (qch (qb3 f) (qc c).1).1, none)
  else ((qc c).1, none) := by rw [qb3]
 rw [hpa]
 clear hpa
 generalize qch (qb3 f) (qc c).1 = r at *
 have g2 : r.1.good := mrow.1 g1
 have g3 : (qf r.1 [45, 62]).1.good := (qk _ _).1 g2
 have g4 : (qb3 f (qf r.1 [45, 62]).1).1.good := (hm _).1 g3
 have hlt : r.2.isSome = true → rest (qf r.1 [45, 62]).1 < f := fun h => by
  have := lrow h
  have := (qk r.1 [45, 62]).2.1
  omega
 refine qp c0cg 1 (by simp) (by simp) ?_
 repeat' (first | refine vs_ ?_ | ((first | refine vr_ ?_ | refine qi1 ?_ | refine qcs hrow rfl ?_ | refine qes g2.ok ?_ | refine qcs (ih _ g3 (hlt (by assumption))) rfl ?_ | refine qgn g4.2.2 ?_ | refine qgn g3.2.2 ?_ | refine qgn g2.2.2 ?_ | refine qza ?_ | refine q1m ?_ | (refine cs_ ?_ ?_ <;> intro hc) | refine cj_ ?_ | fail) <;> (try refine ev_ ?_)) | with_reducible exact ti_)
 all_goals (try simp only [qc2 (c := r.1) (by assumption)])
 all_goals (try simp only [q8u (r := r.2) (by assumption)])
 all_goals (try simp only [qbmu, q4b])
 all_goals (simp only [*, qdt, if_true, if_false, reduceIte, Bool.false_eq_true, Option.getD_none, Option.getD_some, Option.isSome_none, Option.isSome_some, and_self, true_and, and_true]; try rfl)
theorem qy3 (f : Nat) : ∀ c : K, c.good → rest c < f → qce Tryz.prog 104 (curE c) (curE (qb3 f c).1) [.ptr 0 0] (resP (qb3 f c).2) := by
 induction f with
 | zero => exact fun c _ h => absurd h (by omega)
 | succ f ih => exact qz4 ih
end Go.Proofs.YtfjbmjplnmaclaaGreat
