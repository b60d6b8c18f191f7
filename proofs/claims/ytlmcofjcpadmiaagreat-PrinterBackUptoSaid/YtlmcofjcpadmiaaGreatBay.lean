/- Texts of this proof, joined. -/
import Derived.Test.YtlmcofjcpadmiaaGreatBax
import Derived.Test.YtlmcofjcpadmiaaGreatBaq

/- the cursor: in other places; texts; trees that are whole -/
namespace Go.Proofs.YtlmcofjcpadmiaaGreat
open Go Go.RowKit Go.V
set_option linter.unusedVariables false
set_option linter.unusedSimpArgs false

section
variable {P : Program} {f : FuncId} {e e' : Ent} {L : List Ent} {args0 args : List AV} {r : AV} {Q : List Ent → VO → Prop}
theorem qjh (k : Nat) (h : qbq P f e e' args0 r) (hk : L[k]? = some e) (hb : e.bd 0 = true) (hb' : e'.bd 0 = true) (ha : AV.bds 1 args0 = true) (hr : r.bd 0 = true) (hs : AV.rens (sg [k]) args0 = args) (hq : r.wf → Q (L.set k e') (.val r)) :
 VApp P L (.fn f [] []) args Q :=
 qeq (first := []) (caps := []) (by
  simp only [List.nil_append, List.append_nil]
  rw [← hs]
  have hlt : k < L.length := (List.getElem?_eq_some_iff.1 hk).1
  refine qd6 (H0 := [e]) [k] (h.mono' (Q' := fun H' o => (H' = [e'] ∧ o = .val r) ∧ r.wf) fun H' o hw ho => ⟨ho, by have := ho.2; subst this; exact hw⟩) (by simp) (by simpa using hlt) rfl ?_ ha ?_
  ·intro j e2 hj
   obtain rfl : j = 0 := by have := (List.getElem?_eq_some_iff.1 hj).1; simp at this; omega
   simp only [List.getElem?_cons_zero, Option.some.injEq] at hj
   subst hj
   exact .inr ⟨Ent.bd_le (Nat.zero_le _) _ hb, by rw [Ent.ren_same (m := 0) (fun i hi => by omega) _ hb]; exact hk⟩
  ·rintro H1 o ⟨⟨rfl, rfl⟩, hw⟩
   have h1 : e'.ren (sg' [k] L.length) = e' := Ent.ren_same (m := 0) (fun i hi => by omega) _ hb'
   have h2 : r.ren (sg' [k] L.length) = r := ren_same (m := 0) (fun i hi => by omega) _ hr
   simp only [List.length_cons, List.length_nil, List.take_succ_cons, List.take_zero, List.map_cons, List.map_nil, qbp, h1, VO.ren, h2, List.drop_succ_cons, List.drop_nil, List.append_nil]
   exact hq hw)
theorem qp7 (h : VCalls P f [] args fun H' o => H' = [e] ∧ o = .val (.ptr 0 0)) (hb : e.bd 0 = true) (ha : AV.bds 0 args = true) (hq : Q (L ++ [e]) (.val (.ptr L.length 0))) : VApp P L (.fn f [] []) args Q :=
 qeq (first := []) (caps := []) (by
  simp only [List.nil_append, List.append_nil]
  have hs : AV.rens (sg []) args = args := qbg (m := 0) (fun i hi => by omega) _ ha
  rw [← hs]
  refine qd6 (H0 := []) [] h (by simp) (by simp) rfl (fun j e2 hj => by simp at hj) ha ?_
  rintro H1 o ⟨rfl, rfl⟩
  have h1 : e.ren (sg' [] L.length) = e := Ent.ren_same (m := 0) (fun i hi => by omega) _ hb
  simp only [List.length_nil, List.take_zero, List.map_nil, qbp, List.drop_zero, List.map_cons, h1, VO.ren, AV.ren, sg', Nat.not_lt_zero, if_false, Nat.sub_zero, Nat.add_zero]
  exact hq)
end
theorem qfz (s : List UInt8) : (lexV s).1.length ≤ 1048577 ∧ (lexV s).1.length ≤ s.length + 1 := by
 by_cases h : 1048576 < (s.length : Int)
 ·rw [qv9 h]; simp
 ·have hll : (lexG s (qb3 s)).1.length ≤ s.length := by have := qqt (s := s) (s.length - qb3 s) (qb3 s); unfold lexG; omega
  by_cases he : (lexG s (qb3 s)).2.2 = 0
  ·rw [qu7 h he]; simp only [List.length_append, List.length_cons, List.length_nil]; omega
  ·rw [qwc h he]; simp
theorem qkc {n : N} (h : sz n ≤ 1000000) : (qc0 (fun (k : Int) l _ => (if l > k then l else k, true)) n 1 0).1 = depR n := by
 show (qc0 dpF n 1 0).1 = depR n
 rw [qzr n 1 0 (by omega) (by omega), ql5 n (by omega)]
 have := qlv n
 simp only; omega

/-! The cursor: it has gone on, if it has gone; a failure stays. -/
def K.good (c : K) : Prop := c.at' ≤ c.l.length ∧ c.l.length ≤ 1048577 ∧ c.nest ≤ 200
def rest (c : K) : Nat := c.l.length - c.at'
theorem K.good.ok {c : K} (h : c.good) : c.ok := ⟨h.1, Nat.le_trans h.2.1 (by unfold maxLen; omega)⟩
theorem K.good.rest {c : K} (h : c.good) : c.l.length - c.at' ≤ 1048577 := by have := h.2.1; omega
theorem capN {n : Nat} (h : n ≤ 1048580) : qfo n 64 := by unfold qfo; omega
def Wi (B : Int) (c : K) : Prop := (∀ t ∈ c.l, 0 ≤ t.pos ∧ t.pos ≤ B) ∧ 0 ≤ c.ep ∧ c.ep ≤ B ∧ (c.err ≠ 0 → 0 ≤ c.pos ∧ c.pos ≤ B ∧ (c.err = 2 ∨ c.err = 5))
def Mon (c c' : K) : Prop := (c.good → c'.good) ∧ rest c' ≤ rest c ∧ (c.err ≠ 0 → c'.err = c.err) ∧ c'.l = c.l ∧ ∀ B, Wi B c → Wi B c'
theorem Mon.refl (c : K) : Mon c c := ⟨id, Nat.le_refl _, fun _ => rfl, rfl, fun _ h => h⟩
theorem Mon.trans {a b c : K} (h : Mon a b) (k : Mon b c) : Mon a c := ⟨fun g => k.1 (h.1 g), Nat.le_trans k.2.1 h.2.1, fun e => (k.2.2.1 (by rw [h.2.2.1 e]; exact e)).trans (h.2.2.1 e), k.2.2.2.1.trans h.2.2.2.1, fun B g => k.2.2.2.2 B (h.2.2.2.2 B g)⟩
def em (c : K) : Nat := if c.err = 0 then rest c + 1 else 0
theorem qcb (c : K) : Mon c (qj c) := by
 unfold qj
 split
 ·split
  ·exact ⟨fun h => ⟨by simp only; omega, h.2⟩, by unfold rest; simp only; omega, fun _ => rfl, rfl, fun _ h => h⟩
  ·exact Mon.refl c
 ·exact Mon.refl c
theorem qbiu {B : Int} {c : K} (h : Wi B c) (he : c.err = 0) : 0 ≤ (qt c).pos ∧ (qt c).pos ≤ B := by
 by_cases hl : c.at' < c.l.length
 ·rw [qqx he (by omega)]
  refine h.1 _ ?_
  rw [List.getD_eq_getElem?_getD, List.getElem?_eq_getElem hl]
  exact List.getElem_mem hl
 ·rw [qnd he (by omega)]
  exact ⟨h.2.1, h.2.2.1⟩
theorem qg1 (c : K) (e : Int) (he : e = 2 ∨ e = 5 := by decide) : Mon c (qer c e) := by
 refine ⟨?_, ?_, fun h => by rw [qms h], ?_, ?_⟩
 ·unfold qer; split <;> exact id
 ·unfold qer; split <;> exact Nat.le_refl _
 ·unfold qer; split <;> rfl
 ·intro B h
  unfold qer
  split
  ·rename_i h0
   have h1 := qbiu h h0
   refine ⟨h.1, h.2.1, h.2.2.1, fun _ => ⟨h1.1, h1.2, ?_⟩⟩
   simp only
   rw [if_neg (by omega)]; exact he
  ·exact h
theorem qv (c : K) : Mon c (qd c).1 := by
 unfold qd
 split
 ·split
  ·rename_i h1; exact ⟨fun h => ⟨h.1, h.2.1, by simp only; omega⟩, Nat.le_refl _, fun _ => rfl, rfl, fun _ h => h⟩
  ·exact qg1 c 2
 ·exact Mon.refl c
theorem qbn (c : K) : Mon c (qcy c) := by
 unfold qcy
 split
 ·split
  ·exact ⟨fun h => ⟨h.1, h.2.1, by have := h.2.2; simp only; omega⟩, Nat.le_refl _, fun _ => rfl, rfl, fun _ h => h⟩
  ·exact Mon.refl c
 ·exact Mon.refl c
theorem q8 (c : K) (x : List UInt8) : Mon c (qm c x).1 := by
 unfold qm
 split
 ·exact qcb c
 ·exact Mon.refl c
theorem qn (c : K) (x : List UInt8) : Mon c (qx c x).1 := by
 unfold qx
 split
 ·exact qcb c
 ·exact qg1 c 5
theorem qyg {c : K} (h : (qt c).kind ≠ 0) : c.err = 0 ∧ c.at' < c.l.length := by
 unfold qt at h
 split at h
 ·rename_i h1
  split at h
  ·rename_i h2; exact ⟨h1, h2⟩
  ·exact absurd rfl h
 ·exact absurd rfl h
theorem q9 {c : K} (h : (qt c).kind ≠ 0) : rest (qj c) + 1 = rest c := by
 obtain ⟨h1, h2⟩ := qyg h
 rw [qqu h1 (by omega)]
 unfold rest; simp only; omega
theorem qdf {c : K} {x : List UInt8} (h : isK c x = true) : (qt c).kind ≠ 0 := by
 simp only [isK, qbx, Bool.and_eq_true, Bool.or_eq_true, decide_eq_true_eq] at h
 omega
theorem q3x {c : K} (h : (qd c).2 = true) : c.err = 0 ∧ (qd c).1.err = 0 ∧ (qd c).1 = { c with nest := c.nest + 1 } := by
 unfold qd at h ⊢
 split at h
 ·rename_i h1
  split at h
  ·rename_i h2; rw [if_pos h1, if_pos h2]; exact ⟨h1, h1, rfl⟩
  ·cases h
 ·cases h
theorem qde {c : K} (h : (qd c).2 = true) : qt (qd c).1 = qt c := by rw [(q3x h).2.2]; rfl
/-! Types: the program. -/
def begT (c : K) : Bool := decide ((qt c).kind = 1) || decide ((qt c).kind = 2) || isK c [40]
def qiu (c : K) (k : Int) (ks : List N) : N := .mk k (qt c).pos 0 (qt c).text ks
def qbf (rec : K → K × Option N) (c : K) : K × Option N :=
 if (qt c).kind = 1 then (qj c, some (qiu c 1 []))
 else if (qt c).kind = 2 then (qj c, some (qiu c 2 []))
 else if isK c [40] = true then
  if (qd c).2 = true then
   if (rec (qj (qd c).1)).2.isSome = true then
    (qcy (qx (rec (qj (qd c).1)).1 [41]).1, if (qx (rec (qj (qd c).1)).1 [41]).2 = true then (rec (qj (qd c).1)).2 else none)
   else (qcy (rec (qj (qd c).1)).1, none)
  else ((qd c).1, none)
 else (qer c 5, none)
def qc5 (rec : K → K × Option N) : Nat → K → List N → K × Option (List N)
 | 0, c, acc => (c, none)
 | f + 1, c, acc =>
   if begT c = true then
    if (qbf rec c).2.isSome = true then qc5 rec f (qbf rec c).1 (acc ++ [(qbf rec c).2.getD N0])
    else ((qbf rec c).1, none)
   else (c, some acc)
def qbm (rec : K → K × Option N) (c : K) : K × Option N :=
 if (qt c).kind = 2 then ((qc5 rec (rest c + 1) (qj c) []).1, (qc5 rec (rest c + 1) (qj c) []).2.map (qiu c 2))
 else qbf rec c
def qie (n m : N) : N := .mk 2 n.pos 0 [45, 62] [n, m]
def qbe : Nat → K → K × Option N
 | 0, c => (c, none)
 | f + 1, c =>
   if (qd c).2 = true then
    if (qbm (qbe f) (qd c).1).2.isSome = true then
     if (qm (qbm (qbe f) (qd c).1).1 [45, 62]).2 = true then
      (qcy (qbe f (qm (qbm (qbe f) (qd c).1).1 [45, 62]).1).1, (qbe f (qm (qbm (qbe f) (qd c).1).1 [45, 62]).1).2.map (qie ((qbm (qbe f) (qd c).1).2.getD N0)))
     else (qcy (qbm (qbe f) (qd c).1).1, (qbm (qbe f) (qd c).1).2)
    else (qcy (qbm (qbe f) (qd c).1).1, none)
   else ((qd c).1, none)
section
variable {rec : K → K × Option N} (hm : ∀ c, Mon c (rec c).1)
include hm
theorem qd9 (c : K) : Mon c (qbf rec c).1 := by
 unfold qbf
 split
 ·exact qcb c
 ·split
  ·exact qcb c
  ·split
   ·split
    ·have h1 := ((qv c).trans (qcb _)).trans (hm _)
     split
     ·exact (h1.trans (qn _ _)).trans (qbn _)
     ·exact h1.trans (qbn _)
    ·exact qv c
   ·exact qg1 c 5
theorem qei {c : K} (h : (qbf rec c).2.isSome = true) : rest (qbf rec c).1 < rest c := by
 unfold qbf at h ⊢
 split at h
 ·rename_i h1; rw [if_pos h1]; have := q9 (c := c) (by omega); simp only; omega
 ·rename_i h1
  rw [if_neg h1]
  split at h
  ·rename_i h2; rw [if_pos h2]; have := q9 (c := c) (by omega); simp only; omega
  ·rename_i h2
   rw [if_neg h2]
   split at h
   ·rename_i hk
    rw [if_pos hk]
    split at h
    ·rename_i he
     rw [if_pos he]
     have hp := q9 (c := (qd c).1) (by rw [qde he]; exact qdf hk)
     have h0 := (qv c).2.1
     have h1 := (hm (qj (qd c).1)).2.1
     split at h
     ·rename_i hr
      rw [if_pos hr]
      have h2 := (qn (rec (qj (qd c).1)).1 [41]).2.1
      have h3 := (qbn (qx (rec (qj (qd c).1)).1 [41]).1).2.1
      simp only; omega
     ·cases h
    ·cases h
   ·cases h
theorem qgq : ∀ (f : Nat) (c : K) (acc : List N), Mon c (qc5 rec f c acc).1
 | 0, c, acc => Mon.refl c
 | f + 1, c, acc => by
   rw [qc5]
   split
   ·split
    ·exact (qd9 hm c).trans (qgq f _ _)
    ·exact qd9 hm c
   ·exact Mon.refl c
theorem qph (c : K) : Mon c (qbm rec c).1 := by
 unfold qbm
 split
 ·exact (qcb c).trans (qgq hm _ _ _)
 ·exact qd9 hm c
theorem qvf {c : K} (h : (qbm rec c).2.isSome = true) : rest (qbm rec c).1 < rest c := by
 unfold qbm at h ⊢
 split at h
 ·rename_i h1
  rw [if_pos h1]
  have := q9 (c := c) (by omega)
  have := (qgq hm (rest c + 1) (qj c) []).2.1
  simp only; omega
 ·rename_i h1
  rw [if_neg h1]
  exact qei hm h
end
theorem qfa : ∀ (f : Nat) (c : K), Mon c (qbe f c).1
 | 0, c => Mon.refl c
 | f + 1, c => by
   have hr := (qv c).trans (qph (qfa f) (qd c).1)
   rw [qbe]
   split
   ·split
    ·split
     ·exact ((hr.trans (q8 _ _)).trans (qfa f _)).trans (qbn _)
     ·exact hr.trans (qbn _)
    ·exact hr.trans (qbn _)
   ·exact qv c
set_option maxRecDepth 4000

def resP (r : Option N) : AV := .tup [enc (r.getD N0), .bool r.isSome]
attribute [go_sem] resP
theorem qq4 (k : Nat) (r : Option N) : (resP r).bd k = true := by simp only [resP, AV.bd, AV.bds, qjg, Bool.and_true]
theorem qcu {P : Program} {f : FuncId} {c c' : K} {L : List Ent} {args : List AV} {r : Option N} {Q : List Ent → VO → Prop} (h : qbq P f (curE c) (curE c') args (resP r)) (ha : AV.bds 1 args = true) (hq : Q (curE c' :: L) (.val (resP r))) : VApp P (curE c :: L) (.fn f [] []) args Q :=
 qbh h (qo _ _) (qo _ _) ha (qq4 _ _) fun _ => hq
theorem qdg : AV.agg [.int .i64 0, .int .i64 0, .int .i64 0, .str [], .sl 5 []] = enc N0 := by simp [N0, enc, encs]
def qkj (n : N) (b : Bool) : Option N := if b = true then some n else none
theorem qbcg (n : N) : qkj n false = none := rfl
theorem q4d {r : Option N} {b : Bool} (h : r.isSome = true) : qkj (r.getD N0) b = if b = true then r else none := by
 cases r with
 | none => cases h
 | some n => rfl
theorem q6m (c : K) (n : N) (b : Bool) : qbq Tryz.prog 147 (curE c) (curE c) [.ptr 0 0, enc n, .bool b] (resP (qkj n b)) := by
 refine qk c0ea 1 (by simp) (by simp) ?_
 repeat' (first | refine vs_ ?_ | ((first | refine vr_ ?_ | (refine cs_ ?_ ?_ <;> intro hc) | refine cj_ ?_ | fail) <;> (try refine ev_ ?_)) | with_reducible exact ti_)
 all_goals (unfold qkj; simp_all [qdg])
theorem qr8 {c : K} {L : List Ent} {n : N} {b : Bool} {Q : List Ent → VO → Prop} (hq : Q (curE c :: L) (.val (resP (qkj n b)))) : VApp Tryz.prog (curE c :: L) (.fn 147 [] []) [.ptr 0 0, enc n, .bool b] Q := qcu (q6m c n b) (by simp only [AV.bds, AV.bd, qjg]; rfl) hq
theorem quh {c : K} {L : List Ent} {n m : N} {b : Bool} {Q : List Ent → VO → Prop} (hq : Q (curE c :: L) (.val (resP (qkj (qie n m) b)))) :
 VApp Tryz.prog (curE c :: L) (.fn 147 [] []) [.ptr 0 0, .agg [.int .i64 2, .int .i64 n.pos, .int .i64 0, .str [45, 62], .sl 5 [enc n, enc m]], .bool b] Q := by
 have h := qr8 (n := qie n m) hq
 simpa only [qie, enc, encs] using h
theorem qpo {r : Option N} {g : N → N} : qkj (g (r.getD N0)) r.isSome = r.map g := by cases r <;> rfl
theorem qzc {r : Option N} {n : N} : qkj (qie n (r.getD N0)) r.isSome = r.map (qie n) := qpo
theorem qdm {c : K} {x : List UInt8} (h : (qm c x).2 = false) : (qm c x).1 = c := by
 unfold qm at *
 split at h
 ·cases h
 ·rename_i h1; rw [if_neg h1]
theorem qzg (c : K) : qbq Tryz.prog 183 (curE c) (curE c) [.ptr 0 0] (.bool (begT c)) := by
 refine qk c0eb 1 (by simp) (by simp) ?_
 repeat' (first | refine vs_ ?_ | ((first | refine vr_ ?_ | refine qcx ?_ | refine a_Is ?_ | (refine cs_ ?_ ?_ <;> intro hc) | refine cj_ ?_ | fail) <;> (try refine ev_ ?_)) | with_reducible exact ti_)
 all_goals (unfold begT; simp_all)
theorem qbcp {c : K} {L : List Ent} {Q : List Ent → VO → Prop} (hq : Q (curE c :: L) (.val (.bool (begT c)))) : VApp Tryz.prog (curE c :: L) (.fn 183 [] []) [.ptr 0 0] Q := qbh (qzg c) (qo _ _) (qo _ _) rfl rfl fun _ => hq
theorem qci {l : List N} (h : l ≠ []) : encs l ≠ [] := by cases l with | nil => exact absurd rfl h | cons _ _ => simp [encs]
def q0r (p : Int) (t : List UInt8) (c : K) (acc : List N) : AF × List Ent :=
 (⟨[(0, .ptr 0 0), (2, .ptr 1 0), (5, .ptr 2 0)], []⟩,
   curE c :: .blk [.int .i64 0, .int .i64 0, .int .i64 0, .str [], .nils] :: .blk [.int .i64 2, .int .i64 p, .int .i64 0, .str t, accV 3 (encs acc)] :: accE 5 (encs acc))
section
variable {rec : K → K × Option N} {b : Nat} (hm : ∀ c, Mon c (rec c).1) (ih : ∀ c, c.good → rest c < b → qbq Tryz.prog 93 (curE c) (curE (rec c).1) [.ptr 0 0] (resP (rec c).2))
include hm ih
theorem qh8 (c : K) (hg : c.good) (hr : rest c ≤ b) : qbq Tryz.prog 165 (curE c) (curE (qbf rec c).1) [.ptr 0 0] (resP (qbf rec c).2) := by
 have g1 : (qd c).1.good := (qv c).1 hg
 have g2 : (qj (qd c).1).good := (qcb _).1 g1
 have g3 : (rec (qj (qd c).1)).1.good := (hm _).1 g2
 have g4 : (qx (rec (qj (qd c).1)).1 [41]).1.good := (qn _ _).1 g3
 have hrr : isK c [40] = true → (qd c).2 = true → rest (qj (qd c).1) < b := fun h1 h2 => by
  have := q9 (c := (qd c).1) (by rw [qde h2]; exact qdf h1)
  have := (qv c).2.1
  omega
 refine qk c0ec 1 (by simp) (by simp) ?_
 repeat' (first | refine vs_ ?_ | ((first | refine vr_ ?_ | refine qcx ?_ | refine a_Is ?_ | refine qos ?_ | refine qf6 ?_ | refine qhd hg.ok ?_ | refine qhd g1.ok ?_ | refine qcu (ih _ g2 (hrr (by assumption) (by assumption))) rfl ?_ | refine qc4 g3.ok ?_ | refine qd7 g4.2.2 ?_ | refine qd7 g3.2.2 ?_ | refine qr8 ?_ | (refine cs_ ?_ ?_ <;> intro hc) | refine cj_ ?_ | fail) <;> (try refine ev_ ?_)) | with_reducible exact ti_)
 all_goals (try simp only [q4d (r := (rec (qj (qd c).1)).2) (by assumption)])
 all_goals (try simp only [qbcg])
 all_goals (unfold qbf qiu; simp only [*, qdg, Int.reduceEq, if_true, if_false, reduceIte, Bool.false_eq_true, Option.getD_none, Option.getD_some, Option.isSome_none, Option.isSome_some, and_self, true_and, and_true]; try rfl)
theorem qbs6 (c : K) (hg : c.good) (hr : rest c ≤ b) : qbq Tryz.prog 148 (curE c) (curE (qbm rec c).1) [.ptr 0 0] (resP (qbm rec c).2) := by
 refine qk c0ed 1 (by simp) (by simp) ?_
 by_cases hk : (qt c).kind = 2
 ·have g1 : (qj c).good := (qcb _).1 hg
  have hpa : qbm rec c = ((qc5 rec (rest c + 1) (qj c) []).1, (qc5 rec (rest c + 1) (qj c) []).2.map (qiu c 2)) := by rw [qbm, if_pos hk]
  rw [hpa]
  clear hpa
  generalize htg : qc5 rec (rest c + 1) (qj c) [] = tg
  have hmt : Mon (qj c) tg.1 := htg ▸ qgq hm _ _ _
  have hrn := q9 (c := c) (by omega)
  repeat' (first | refine vs_ ?_ | ((first | refine vr_ ?_ | fail) <;> (try simp only [hk, Int.reduceEq, go_sem, ↓reduceIte])) | ((first | (refine cs_ ?_ ?_ <;> intro hc) | refine cj_ ?_ | fail | refine qcx ?_ | refine qhd hg.ok ?_) <;> (try refine ev_ ?_)) | with_reducible exact ti_)
  refine qch (S := Nat × K × List N) (fun x => x.2.1.good ∧ rest x.2.1 ≤ b ∧ qc5 rec x.1 x.2.1 x.2.2 = tg ∧ rest x.2.1 < x.1 ∧ x.2.2.length + rest x.2.1 ≤ 1048577)
   (fun x => q0r (qt c).pos (qt c).text x.2.1 x.2.2) (fun x => rest x.2.1 + 1) ?_ ?_
  ·refine qbj (rest c + 1, qj c, []) [0, 1, 3] ⟨g1, by simp only; omega, htg, by simp only; omega, ?_⟩ rfl (by simp) ?_ ?_ ?_
   ·have h9 := g1.rest
    unfold rest
    simp only [List.length_nil]
    omega
   all_goals simp only [q0r, encs, qbu, qb0]
   all_goals (refine ev_ ?_; (try with_reducible exact ti_))
  ·rintro ⟨fu, d, acc⟩ ⟨i1, i2, i3, i4, i5⟩
   simp only at i1 i2 i3 i4 i5
   unfold q0r
   obtain ⟨fu, rfl⟩ : ∃ k, fu = k + 1 := ⟨fu - 1, by omega⟩
   rw [qc5] at i3
   have hcap : qfo (acc.length + 1) 64 := capN (by omega)
   have j1 : (qbf rec d).1.good := (qd9 hm d).1 i1
   have j2 : rest (qbf rec d).1 ≤ rest d := (qd9 hm d).2.1
   by_cases h0 : acc = []
   ·subst h0
    simp only [encs, qbu, qb0]
    repeat' (first | refine vs_ ?_ | ((first | refine vr_ ?_ | refine qbcp ?_ | refine qcu (qh8 hm ih _ i1 i2) rfl ?_ | (refine cs_ ?_ ?_ <;> intro hc) | refine cj_ ?_ | fail) <;> (try refine ev_ ?_)) | with_reducible exact ti_)
    ·have hb : begT d = true := by assumption
     have hs : (qbf rec d).2.isSome = false := by assumption
     rw [if_pos hb, if_neg (by rw [hs]; simp)] at i3
     subst i3
     exact ⟨rfl, by rw [qdg]; rfl⟩
    ·have hb : begT d = true := by assumption
     have hs : (qbf rec d).2.isSome = true := by assumption
     rw [if_pos hb, if_pos hs] at i3
     have hlt := qei hm hs
     refine qbj (fu, (qbf rec d).1, [] ++ [(qbf rec d).2.getD N0]) [0, 1, 2, 4] ⟨⟨j1, by simp only; omega, i3, by simp only; omega, ?_⟩, by simp only; omega⟩ rfl (by simp) ?_ ?_ ?_
     ·simp only [List.length_append, List.length_cons, List.length_nil]; omega
     all_goals simp only [q0r, ← qr, qej, qek, List.nil_append, encs, qfs, qfr]
     all_goals (refine ev_ ?_; (try with_reducible exact ti_))
    ·have hb : begT d = false := by assumption
     rw [if_neg (by rw [hb]; simp)] at i3
     subst i3
     simp only [Option.map_some, Option.getD_some, Option.isSome_some, enc, encs, qiu, and_self]
   ·have hne := qci h0
    simp only [qcd hne, qce hne, qbs]
    repeat' (first | refine vs_ ?_ | ((first | refine vr_ ?_ | refine qbcp ?_ | refine qcu (qh8 hm ih _ i1 i2) rfl ?_ | (refine cs_ ?_ ?_ <;> intro hc) | refine cj_ ?_ | fail) <;> (try refine ev_ ?_)) | with_reducible exact ti_)
    ·have hb : begT d = true := by assumption
     have hs : (qbf rec d).2.isSome = false := by assumption
     rw [if_pos hb, if_neg (by rw [hs]; simp)] at i3
     subst i3
     exact ⟨rfl, by rw [qdg]; rfl⟩
    ·have hb : begT d = true := by assumption
     have hs : (qbf rec d).2.isSome = true := by assumption
     rw [if_pos hb, if_pos hs] at i3
     have hlt := qei hm hs
     refine qbj (fu, (qbf rec d).1, acc ++ [(qbf rec d).2.getD N0]) [0, 1, 2, 5] ⟨⟨j1, by simp only; omega, i3, by simp only; omega, ?_⟩, by simp only; omega⟩ rfl (by simp) ?_ ?_ ?_
     ·simp only [List.length_append, List.length_cons, List.length_nil]; omega
     all_goals simp only [q0r, ← qr, qej, qek, List.nil_append, encs, qfs, qfr]
     all_goals (refine ev_ ?_; (try with_reducible exact ti_))
     rw [qr, qcf, qdc]; exact ⟨rfl, rfl⟩
    ·have hb : begT d = false := by assumption
     rw [if_neg (by rw [hb]; simp)] at i3
     subst i3
     simp only [Option.map_some, Option.getD_some, Option.isSome_some, enc, encs, qiu, and_self]
 ·repeat' (first | refine vs_ ?_ | ((first | refine vr_ ?_ | fail) <;> (try simp only [hk, go_sem, ↓reduceIte])) | ((first | (refine cs_ ?_ ?_ <;> intro hc) | refine cj_ ?_ | fail | refine qcx ?_ | refine qcu (qh8 hm ih c hg hr) rfl ?_) <;> (try refine ev_ ?_)) | with_reducible exact ti_)
  rw [qbm, if_neg hk]; exact ⟨rfl, rfl⟩
end
theorem quu {f : Nat} (ih : ∀ c, c.good → rest c < f → qbq Tryz.prog 93 (curE c) (curE (qbe f c).1) [.ptr 0 0] (resP (qbe f c).2)) (c : K) (hg : c.good) (hr : rest c < f + 1) :
 qbq Tryz.prog 93 (curE c) (curE (qbe (f + 1) c).1) [.ptr 0 0] (resP (qbe (f + 1) c).2) := by
 have hm := qfa f
 have g1 : (qd c).1.good := (qv c).1 hg
 have hr1 : rest (qd c).1 ≤ f := by have := (qv c).2.1; omega
 have hrow := qbs6 hm ih _ g1 hr1
 have mrow := qph hm (qd c).1
 have lrow := qvf hm (c := (qd c).1)
 have hpa : qbe (f + 1) c = if (qd c).2 = true then
  if (qbm (qbe f) (qd c).1).2.isSome = true then
   if (qm (qbm (qbe f) (qd c).1).1 [45, 62]).2 = true then
    (qcy (qbe f (qm (qbm (qbe f) (qd c).1).1 [45, 62]).1).1, (qbe f (qm (qbm (qbe f) (qd c).1).1 [45, 62]).1).2.map (qie ((qbm (qbe f) (qd c).1).2.getD N0)))
   else (qcy (qbm (qbe f) (qd c).1).1, (qbm (qbe f) (qd c).1).2)
  else (qcy (qbm (qbe f) (qd c).1).1, none)
  else ((qd c).1, none) := by rw [qbe]
 rw [hpa]
 clear hpa
 generalize qbm (qbe f) (qd c).1 = r at *
 have g2 : r.1.good := mrow.1 g1
 have g3 : (qm r.1 [45, 62]).1.good := (q8 _ _).1 g2
 have g4 : (qbe f (qm r.1 [45, 62]).1).1.good := (hm _).1 g3
 have hlt : r.2.isSome = true → rest (qm r.1 [45, 62]).1 < f := fun h => by
  have := lrow h
  have := (q8 r.1 [45, 62]).2.1
  omega
 refine qk c0ee 1 (by simp) (by simp) ?_
 repeat' (first | refine vs_ ?_ | ((first | refine vr_ ?_ | refine qf6 ?_ | refine qcu hrow rfl ?_ | refine qdv g2.ok ?_ | refine qcu (ih _ g3 (hlt (by assumption))) rfl ?_ | refine qd7 g4.2.2 ?_ | refine qd7 g3.2.2 ?_ | refine qd7 g2.2.2 ?_ | refine qr8 ?_ | refine quh ?_ | (refine cs_ ?_ ?_ <;> intro hc) | refine cj_ ?_ | fail) <;> (try refine ev_ ?_)) | with_reducible exact ti_)
 all_goals (try simp only [qdm (c := r.1) (by assumption)])
 all_goals (try simp only [q4d (r := r.2) (by assumption)])
 all_goals (try simp only [qbcg, qzc])
 all_goals (simp only [*, qdg, if_true, if_false, reduceIte, Bool.false_eq_true, Option.getD_none, Option.getD_some, Option.isSome_none, Option.isSome_some, and_self, true_and, and_true]; try rfl)
theorem qwn (f : Nat) : ∀ c : K, c.good → rest c < f → qbq Tryz.prog 93 (curE c) (curE (qbe f c).1) [.ptr 0 0] (resP (qbe f c).2) := by
 induction f with
 | zero => exact fun c _ h => absurd h (by omega)
 | succ f ih => exact quu ih
set_option maxRecDepth 4000

def kindK (c : K) (k : Int) : K × Bool := if (decide (c.err = 0) && decide ((qt c).kind = k)) = true then (qj c, true) else (qer c 5, false)
def qja (c : K) (k : Int) : T := if (kindK c k).2 = true then qt c else T0
theorem qqh {c : K} {k : Int} (h1 : c.err = 0) (h2 : (qt c).kind = k) : kindK c k = (qj c, true) := by rw [kindK, decide_eq_true h1, decide_eq_true h2]; rfl
theorem q3c {c : K} {k : Int} (h2 : ¬ (qt c).kind = k) : kindK c k = (qer c 5, false) := by rw [kindK, decide_eq_false h2, Bool.and_false]; rfl
theorem qzw {c : K} {k : Int} (h1 : ¬ c.err = 0) : kindK c k = (qer c 5, false) := by rw [kindK, decide_eq_false h1]; rfl
theorem qt5 {c : K} {k : Int} (h1 : c.err = 0) (h2 : (qt c).kind = k) : qja c k = qt c := by rw [qja, qqh h1 h2]; rfl
theorem qbiq {c : K} {k : Int} (h2 : ¬ (qt c).kind = k) : qja c k = T0 := by rw [qja, q3c h2]; rfl
theorem qbk8 {c : K} {k : Int} (h1 : ¬ c.err = 0) : qja c k = T0 := by rw [qja, qzw h1]; rfl
theorem q7b (c : K) (hk : c.ok) (k : Int) : qbq Tryz.prog 163 (curE c) (curE (kindK c k).1) [.ptr 0 0, .int .i64 k] (.tup [encT (qja c k), .bool (kindK c k).2]) := by
 refine qk c0er 1 (by simp) (by simp) ?_
 repeat' (first | refine vs_ ?_ | ((first | refine vr_ ?_ | refine qfp ?_ | refine qcx ?_ | refine qos ?_ | refine qhd hk ?_ | (refine cs_ ?_ ?_ <;> intro hc) | refine cj_ ?_ | fail) <;> (try refine ev_ ?_)) | with_reducible exact ti_)
 ·rw [qzw (qf8 (by assumption)), qbk8 (qf8 (by assumption))]; exact ⟨rfl, rfl⟩
 ·rw [q3c (by assumption), qbiq (by assumption)]; exact ⟨rfl, rfl⟩
 ·rw [qqh (qf1 (by assumption)) (by assumption), qt5 (qf1 (by assumption)) (by assumption)]; exact ⟨rfl, rfl⟩
theorem qpe {c : K} {L : List Ent} {k : Int} {Q : List Ent → VO → Prop} (hk : c.ok) (h : Q (curE (kindK c k).1 :: L) (.val (.tup [encT (qja c k), .bool (kindK c k).2]))) :
 VApp Tryz.prog (curE c :: L) (.fn 163 [] []) [.ptr 0 0, .int .i64 k] Q := qbh (q7b c hk k) (qo _ _) (qo _ _) rfl rfl fun _ => h
def qca (x : List UInt8) : List T → Int → Bool
 | [], _ => false
 | t :: r, d =>
   if qbv t [[40], [123]] = true then qca x r (d + 1)
   else if qbv t [[41], [125]] = true then (if d - 1 < 0 then false else qca x r (d - 1))
   else if 0 < d then qca x r d
   else if qbx t [59] = true then false
   else if qbx t x = true then true
   else qca x r d
def qjf (c : K) (x : List UInt8) : Bool := if c.err = 0 then qca x (c.l.drop c.at') 0 else false
theorem q1t (t : T) (x y : List UInt8) : ql Tryz.prog 193 [encT t, .sl 1 [.str x, .str y]] (.bool (qbv t [x, y])) := q0c t [x, y]
theorem qb38 {d : Int} (h0 : -1 ≤ d) (h1 : d ≤ 2000000) : IntKind.i64.wrap d = d := by
 simp [IntKind.wrap, IntKind.signed, IntKind.bits]
 omega
theorem qd2 {b : Bool} (h : b = false) : ¬ b = true := by rw [h]; simp
theorem q0b (c : K) (hk : c.ok) (hl : c.l.length ≤ 1048577) (x : List UInt8) : qbq Tryz.prog 180 (curE c) (curE c) [.ptr 0 0, .str x] (.bool (qjf c x)) := by
 refine qk c0es 1 (by simp) (by simp) ?_
 have hmx : (1048577 : Nat) ≤ maxLen := by unfold maxLen; omega
 have h1 := hk.1
 obtain ⟨l, hll⟩ : ∃ l, l = c.l.drop c.at' := ⟨_, rfl⟩
 have hln : l.length = c.l.length - c.at' := by rw [hll, List.length_drop]
 repeat' (first | refine vs_ ?_ | ((first | refine vr_ ?_ | refine qfp ?_ | (refine cs_ ?_ ?_ <;> intro hc) | refine cj_ ?_ | simp (disch := omega) only [qb, qi]) <;> (try refine ev_ ?_)) | with_reducible exact ti_)
 ·rw [qjf, if_neg (qf8 (by assumption))]
 ·rw [qjf, if_pos (qf1 (by assumption)), ← hll]
  refine qch (S := Nat × Int) (fun y => y.1 ≤ l.length ∧ 0 ≤ y.2 ∧ y.2 ≤ y.1 ∧ qca x l 0 = qca x (l.drop y.1) y.2)
   (fun y => (⟨[(1, .str x), (5, .int .i64 y.2), (18, .sl 4 (qc6 l)), (19, .int .i64 l.length), (20, .int .i64 y.1)], []⟩, [curE c])) (fun y => l.length - y.1) ?_ ?_
  ·refine qbj (0, 0) [0] ⟨Nat.zero_le _, Int.le_refl _, Int.le_refl _, rfl⟩ rfl (by simp) ?_ ?_ ?_ <;> (try refine ev_ ?_) <;> (try with_reducible exact ti_) <;> (try simp (disch := omega) only [qi, and_true, true_and])
  ·rintro ⟨i, d⟩ ⟨i1, i2, i3, i4⟩
   simp only at i1 i2 i3 i4
   by_cases hlt : i < l.length
   ·have hil : (i : Int) < l.length := by omega
    rw [qbq5 hlt, qca] at i4
    have hT : AV.agg [.int .i64 (l.getD i T0).kind, .int .i64 (l.getD i T0).pos, .int .i64 (l.getD i T0).num, .str (l.getD i T0).text] = encT (l.getD i T0) := rfl
    repeat' (first | refine vs_ ?_ | ((first | refine vr_ ?_ | fail) <;> (try simp (disch := first | omega | (simp only [List.length_set, List.length_append, List.length_cons, List.length_nil]; done) | (simp only [List.length_set, List.length_append, List.length_cons, List.length_nil]; omega)) only [hil, qb38, go_sem, ↓reduceIte])) | ((first | simp (disch := omega) only [qe6] | (refine cs_ ?_ ?_ <;> intro hc) | refine cj_ ?_ | simp (disch := omega) only [qb, qi] | refine qa (q1t (l.getD i T0) _ _) fun _ => ?_ | refine qa (qvc (l.getD i T0) _) fun _ => ?_ | refine qe (q1t (l.getD i T0) _ _) ?_ | refine qe (qvc (l.getD i T0) _) ?_) <;> (try refine ev_ ?_)) | with_reducible exact ti_)
    ·have g : qbv (l.getD i T0) [[40], [123]] = true := by assumption
     rw [if_pos g] at i4
     refine qbj (i + 1, d + 1) [0] ⟨⟨by simp only; omega, by simp only; omega, by simp only; omega, i4⟩, by simp only; omega⟩ rfl (by simp) ?_ ?_ ?_ <;> (try refine ev_ ?_) <;> (try with_reducible exact ti_) <;> (try simp (disch := omega) only [qi, and_true, true_and]) <;> (try rfl)
    ·have g : ¬ qbv (l.getD i T0) [[40], [123]] = true := qd2 (by assumption)
     have g2 : qbv (l.getD i T0) [[41], [125]] = true := by assumption
     rw [i4, if_neg g, if_pos g2, if_pos (by assumption)]
    ·have g : ¬ qbv (l.getD i T0) [[40], [123]] = true := qd2 (by assumption)
     have g2 : qbv (l.getD i T0) [[41], [125]] = true := by assumption
     rw [if_neg g, if_pos g2, if_neg (by assumption)] at i4
     refine qbj (i + 1, d - 1) [0] ⟨⟨by simp only; omega, by simp only; omega, by simp only; omega, i4⟩, by simp only; omega⟩ rfl (by simp) ?_ ?_ ?_ <;> (try refine ev_ ?_) <;> (try with_reducible exact ti_) <;> (try simp (disch := omega) only [qi, and_true, true_and]) <;> (try rfl)
    ·have g : ¬ qbv (l.getD i T0) [[40], [123]] = true := qd2 (by assumption)
     have g2 : ¬ qbv (l.getD i T0) [[41], [125]] = true := qd2 (by assumption)
     rw [if_neg g, if_neg g2, if_pos (by assumption)] at i4
     refine qbj (i + 1, d) [0] ⟨⟨by simp only; omega, by simp only; omega, by simp only; omega, i4⟩, by simp only; omega⟩ rfl (by simp) ?_ ?_ ?_ <;> (try refine ev_ ?_) <;> (try with_reducible exact ti_) <;> (try simp (disch := omega) only [qi, and_true, true_and]) <;> (try rfl)
    ·have g : ¬ qbv (l.getD i T0) [[40], [123]] = true := qd2 (by assumption)
     have g2 : ¬ qbv (l.getD i T0) [[41], [125]] = true := qd2 (by assumption)
     rw [i4, if_neg g, if_neg g2, if_neg (by assumption), if_pos (by assumption)]
    ·have g : ¬ qbv (l.getD i T0) [[40], [123]] = true := qd2 (by assumption)
     have g2 : ¬ qbv (l.getD i T0) [[41], [125]] = true := qd2 (by assumption)
     have g3 : ¬ qbx (l.getD i T0) [59] = true := qd2 (by assumption)
     rw [i4, if_neg g, if_neg g2, if_neg (by assumption), if_neg g3, if_pos (by assumption)]
    ·have g : ¬ qbv (l.getD i T0) [[40], [123]] = true := qd2 (by assumption)
     have g2 : ¬ qbv (l.getD i T0) [[41], [125]] = true := qd2 (by assumption)
     have g3 : ¬ qbx (l.getD i T0) [59] = true := qd2 (by assumption)
     have g4 : ¬ qbx (l.getD i T0) x = true := qd2 (by assumption)
     rw [if_neg g, if_neg g2, if_neg (by assumption), if_neg g3, if_neg g4] at i4
     refine qbj (i + 1, d) [0] ⟨⟨by simp only; omega, by simp only; omega, by simp only; omega, i4⟩, by simp only; omega⟩ rfl (by simp) ?_ ?_ ?_ <;> (try refine ev_ ?_) <;> (try with_reducible exact ti_) <;> (try simp (disch := omega) only [qi, and_true, true_and]) <;> (try rfl)
   ·have hil : ¬ (i : Int) < l.length := by omega
    rw [List.drop_of_length_le (by omega), qca] at i4
    repeat' (first | refine vs_ ?_ | ((first | refine vr_ ?_ | fail) <;> (try simp only [hil, go_sem, ↓reduceIte])) | ((first | (refine cs_ ?_ ?_ <;> intro hc) | refine cj_ ?_ | simp (disch := omega) only [qb, qi]) <;> (try refine ev_ ?_)) | with_reducible exact ti_)
    rw [i4]
theorem q12 {c : K} {L : List Ent} {x : List UInt8} {Q : List Ent → VO → Prop} (hk : c.ok) (hl : c.l.length ≤ 1048577) (h : Q (curE c :: L) (.val (.bool (qjf c x)))) :
 VApp Tryz.prog (curE c :: L) (.fn 180 [] []) [.ptr 0 0, .str x] Q := qbh (q0b c hk hl x) (qo _ _) (qo _ _) rfl rfl fun _ => h
end Go.Proofs.YtlmcofjcpadmiaaGreat
