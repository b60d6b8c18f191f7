/- Texts of this proof, joined. -/
import Derived.Test.YtmekebfgmjaenaaGreatAaw
import Derived.Test.YtmekebfgmjaenaaGreatAay

/- the cursor: in other places; texts; trees that are whole -/
namespace Go.Proofs.YtmekebfgmjaenaaGreat
open Go Go.RowKit Go.V
set_option linter.unusedVariables false
set_option linter.unusedSimpArgs false

section
variable {P : Program} {f : FuncId} {e e' : Ent} {L : List Ent} {args0 args : List AV} {r : AV} {Q : List Ent → VO → Prop}
/-- The call's entry lies at place k. -/
theorem qwc (k : Nat) (h : qcs P f e e' args0 r) (hk : L[k]? = some e) (hb : e.bd 0 = true) (hb' : e'.bd 0 = true) (ha : AV.bds 1 args0 = true) (hr : r.bd 0 = true) (hs : AV.rens (sg [k]) args0 = args) (hq : r.wf → Q (L.set k e') (.val r)) :
    VApp P L (.fn f [] []) args Q :=
  qhc (first := []) (caps := []) (by
    simp only [List.nil_append, List.append_nil]
    rw [← hs]
    have hlt : k < L.length := (List.getElem?_eq_some_iff.1 hk).1
    refine qgf (H0 := [e]) [k] (h.mono' (Q' := fun H' o => (H' = [e'] ∧ o = .val r) ∧ r.wf) fun H' o hw ho => ⟨ho, by have := ho.2; subst this; exact hw⟩) (by simp) (by simpa using hlt) rfl ?_ ha ?_
    · intro j e2 hj
      obtain rfl : j = 0 := by have := (List.getElem?_eq_some_iff.1 hj).1; simp at this; omega
      simp only [List.getElem?_cons_zero, Option.some.injEq] at hj
      subst hj
      exact .inr ⟨Ent.bd_le (Nat.zero_le _) _ hb, by rw [Ent.ren_same (m := 0) (fun i hi => by omega) _ hb]; exact hk⟩
    · rintro H1 o ⟨⟨rfl, rfl⟩, hw⟩
      have h1 : e'.ren (sg' [k] L.length) = e' := Ent.ren_same (m := 0) (fun i hi => by omega) _ hb'
      have h2 : r.ren (sg' [k] L.length) = r := ren_same (m := 0) (fun i hi => by omega) _ hr
      simp only [List.length_cons, List.length_nil, List.take_succ_cons, List.take_zero, List.map_cons, List.map_nil, qcp, h1, VO.ren, h2, List.drop_succ_cons, List.drop_nil, List.append_nil]
      exact hq hw)
/-- A call that makes an entry. -/
theorem qka (h : VCalls P f [] args fun H' o => H' = [e] ∧ o = .val (.ptr 0 0)) (hb : e.bd 0 = true) (ha : AV.bds 0 args = true) (hq : Q (L ++ [e]) (.val (.ptr L.length 0))) : VApp P L (.fn f [] []) args Q :=
  qhc (first := []) (caps := []) (by
    simp only [List.nil_append, List.append_nil]
    have hs : AV.rens (sg []) args = args := qcn (m := 0) (fun i hi => by omega) _ ha
    rw [← hs]
    refine qgf (H0 := []) [] h (by simp) (by simp) rfl (fun j e2 hj => by simp at hj) ha ?_
    rintro H1 o ⟨rfl, rfl⟩
    have h1 : e.ren (sg' [] L.length) = e := Ent.ren_same (m := 0) (fun i hi => by omega) _ hb
    simp only [List.length_nil, List.take_zero, List.map_nil, qcp, List.drop_zero, List.map_cons, h1, VO.ren, AV.ren, sg', Nat.not_lt_zero, if_false, Nat.sub_zero, Nat.add_zero]
    exact hq)
end
theorem qrf (s : List UInt8) : (lexV s).1.length ≤ 1048577 ∧ (lexV s).1.length ≤ s.length + 1 := by
  by_cases h : 1048576 < (s.length : Int)
  · rw [qv9 h]; simp
  · have hll : (lexG s (qc5 s)).1.length ≤ s.length := by have := qq2 (s := s) (s.length - qc5 s) (qc5 s); unfold lexG; omega
    by_cases he : (lexG s (qc5 s)).2.2 = 0
    · rw [qz8 h he]; simp only [List.length_append, List.length_cons, List.length_nil]; omega
    · rw [qwl h he]; simp
theorem qyf {n : N} (h : sz n ≤ 1000000) : (qfp (fun (k : Int) l _ => (if l > k then l else k, true)) n 1 0).1 = depR n := by
  show (qfp dpF n 1 0).1 = depR n
  rw [qbab n 1 0 (by omega) (by omega), qbon n (by omega)]
  have := q4w n
  simp only; omega
end Go.Proofs.YtmekebfgmjaenaaGreat

/- types: what is read (plain) -/
namespace Go.Proofs.YtmekebfgmjaenaaGreat
open Go Go.RowKit Go.V
set_option linter.unusedVariables false
set_option linter.unusedSimpArgs false

/-! The cursor: it has gone on, if it has gone; a failure stays. -/
def K.good (c : K) : Prop := c.at' ≤ c.l.length ∧ c.l.length ≤ 1048577 ∧ c.nest ≤ 200
def rest (c : K) : Nat := c.l.length - c.at'
theorem K.good.ok {c : K} (h : c.good) : c.ok := ⟨h.1, Nat.le_trans h.2.1 (by unfold maxLen; omega)⟩
theorem K.good.rest {c : K} (h : c.good) : c.l.length - c.at' ≤ 1048577 := by have := h.2.1; omega
theorem capN {n : Nat} (h : n ≤ 1048580) : qy n 64 := by unfold qy; omega
def Mon (c c' : K) : Prop := (c.good → c'.good) ∧ rest c' ≤ rest c ∧ (c.err ≠ 0 → c'.err ≠ 0) ∧ c'.l = c.l
theorem Mon.refl (c : K) : Mon c c := ⟨id, Nat.le_refl _, id, rfl⟩
theorem Mon.trans {a b c : K} (h : Mon a b) (k : Mon b c) : Mon a c := ⟨fun g => k.1 (h.1 g), Nat.le_trans k.2.1 h.2.1, fun e => k.2.2.1 (h.2.2.1 e), k.2.2.2.trans h.2.2.2⟩
def em (c : K) : Nat := if c.err = 0 then rest c + 1 else 0
theorem Mon.em {c c' : K} (h : Mon c c') : em c' ≤ em c := by
  unfold Go.Proofs.YtmekebfgmjaenaaGreat.em
  have := h.2.1
  split
  · split
    · omega
    · rename_i h1 h2; exact absurd h1 (h.2.2.1 h2)
  · omega
theorem qip (c : K) : em c ≤ rest c + 1 := by unfold em; split <;> omega
theorem qbs6 {c : K} (h : c.err ≠ 0) : em c = 0 := if_neg h
theorem qbql {c : K} (h : c.err = 0) : em c = rest c + 1 := if_pos h
theorem qgz (c : K) {e : Int} : (qe9 c e).err ≠ 0 := by
  unfold qe9
  split
  · simp only; split
    · simp
    · assumption
  · assumption
theorem qbw (c : K) : Mon c (qbc c) := by
  unfold qbc
  split
  · split
    · exact ⟨fun h => ⟨by simp only; omega, h.2⟩, by unfold rest; simp only; omega, id, rfl⟩
    · exact Mon.refl c
  · exact Mon.refl c
theorem qfh (c : K) (e : Int) : Mon c (qe9 c e) := by
  refine ⟨?_, ?_, fun _ => qgz c, ?_⟩ <;> unfold qe9 <;> split <;> first | exact id | exact Nat.le_refl _ | rfl
theorem qbb (c : K) : Mon c (qr c).1 := by
  unfold qr
  split
  · split
    · rename_i h1; exact ⟨fun h => ⟨h.1, h.2.1, by simp only; omega⟩, Nat.le_refl _, id, rfl⟩
    · exact qfh c 2
  · exact Mon.refl c
theorem qby (c : K) : Mon c (qci c) := by
  unfold qci
  split
  · split
    · exact ⟨fun h => ⟨h.1, h.2.1, by have := h.2.2; simp only; omega⟩, Nat.le_refl _, id, rfl⟩
    · exact Mon.refl c
  · exact Mon.refl c
theorem qbf (c : K) (x : List UInt8) : Mon c (qz c x).1 := by
  unfold qz
  split
  · exact qbw c
  · exact Mon.refl c
theorem qx (c : K) (x : List UInt8) : Mon c (q9 c x).1 := by
  unfold q9
  split
  · exact qbw c
  · exact qfh c 5
theorem qd4 {c : K} (h : (qbg c).kind ≠ 0) : c.err = 0 ∧ c.at' < c.l.length := by
  unfold qbg at h
  split at h
  · rename_i h1
    split at h
    · rename_i h2; exact ⟨h1, h2⟩
    · exact absurd rfl h
  · exact absurd rfl h
theorem qbm {c : K} (h : (qbg c).kind ≠ 0) : rest (qbc c) + 1 = rest c := by
  obtain ⟨h1, h2⟩ := qd4 h
  rw [qpw h1 (by omega)]
  unfold rest; simp only; omega
theorem qdp {c : K} {x : List UInt8} (h : isK c x = true) : (qbg c).kind ≠ 0 := by
  simp only [isK, qh5, Bool.and_eq_true, Bool.or_eq_true, decide_eq_true_eq] at h
  omega
theorem qqm {c : K} {x : List UInt8} (h : isK c x = true) : c.err = 0 := by
  simp only [isK, Bool.and_eq_true, decide_eq_true_eq] at h
  exact h.1
theorem qr9 {c : K} (h : (qr c).2 = true) : c.err = 0 ∧ (qr c).1.err = 0 ∧ (qr c).1 = { c with nest := c.nest + 1 } := by
  unfold qr at h ⊢
  split at h
  · rename_i h1
    split at h
    · rename_i h2; rw [if_pos h1, if_pos h2]; exact ⟨h1, h1, rfl⟩
    · cases h
  · cases h
theorem qei {c : K} (h : (qr c).2 = true) : qbg (qr c).1 = qbg c := by rw [(qr9 h).2.2]; rfl
theorem ql2 {c : K} {x : List UInt8} (h : (qr c).2 = true) : isK (qr c).1 x = isK c x := by rw [(qr9 h).2.2]; rfl
theorem qf1 {c : K} (h : (qr c).2 = false) : (qr c).1.err ≠ 0 := by
  unfold qr at h ⊢
  split at h
  · rename_i h1
    split at h
    · cases h
    · rename_i h2; rw [if_pos h1, if_neg h2]; exact qgz c
  · rename_i h1; rw [if_neg h1]; exact h1
theorem qd7 {c : K} {x : List UInt8} (h : (q9 c x).2 = false) : (q9 c x).1.err ≠ 0 := by
  unfold q9 at h ⊢
  split at h
  · cases h
  · rename_i h1; rw [if_neg h1]; exact qgz c
theorem qco {c : K} (h : c.err ≠ 0) : qci c = c := if_neg h
theorem qu0 {c : K} {x : List UInt8} (h : c.err ≠ 0) : isK c x = false := by
  simp only [isK, decide_eq_false h, Bool.false_and]
theorem qb9 {c : K} {x : List UInt8} (h : c.err ≠ 0) : q9 c x = (c, false) := by
  rw [q9, if_neg (by rw [qu0 h]; simp), qfx h]
theorem qfs {c : K} {x : List UInt8} (h : c.err ≠ 0) : qz c x = (c, false) := qu7 (qu0 h)
theorem ql4 {c : K} {x : List UInt8} (h : isK c x = true) : q9 c x = (qbc c, true) := if_pos h

/-! Types: the program. -/
def begT (c : K) : Bool := decide ((qbg c).kind = 1) || decide ((qbg c).kind = 2) || isK c [40]
def qh4 (c : K) (k : Int) (ks : List N) : N := .mk k (qbg c).pos 0 (qbg c).text ks
def qb8 (rec : K → K × Option N) (c : K) : K × Option N :=
  if (qbg c).kind = 1 then (qbc c, some (qh4 c 1 []))
  else if (qbg c).kind = 2 then (qbc c, some (qh4 c 2 []))
  else if isK c [40] = true then
    if (qr c).2 = true then
      if (rec (qbc (qr c).1)).2.isSome = true then
        (qci (q9 (rec (qbc (qr c).1)).1 [41]).1, if (q9 (rec (qbc (qr c).1)).1 [41]).2 = true then (rec (qbc (qr c).1)).2 else none)
      else (qci (rec (qbc (qr c).1)).1, none)
    else ((qr c).1, none)
  else (qe9 c 5, none)
def qeg (rec : K → K × Option N) : Nat → K → List N → K × Option (List N)
  | 0, c, acc => (c, none)
  | f + 1, c, acc =>
    if begT c = true then
      if (qb8 rec c).2.isSome = true then qeg rec f (qb8 rec c).1 (acc ++ [(qb8 rec c).2.getD N0])
      else ((qb8 rec c).1, none)
    else (c, some acc)
def qcj (rec : K → K × Option N) (c : K) : K × Option N :=
  if (qbg c).kind = 2 then ((qeg rec (rest c + 1) (qbc c) []).1, (qeg rec (rest c + 1) (qbc c) []).2.map (qh4 c 2))
  else qb8 rec c
def qh1 (n m : N) : N := .mk 2 n.pos 0 [45, 62] [n, m]
def qce : Nat → K → K × Option N
  | 0, c => (c, none)
  | f + 1, c =>
    if (qr c).2 = true then
      if (qcj (qce f) (qr c).1).2.isSome = true then
        if (qz (qcj (qce f) (qr c).1).1 [45, 62]).2 = true then
          (qci (qce f (qz (qcj (qce f) (qr c).1).1 [45, 62]).1).1, (qce f (qz (qcj (qce f) (qr c).1).1 [45, 62]).1).2.map (qh1 ((qcj (qce f) (qr c).1).2.getD N0)))
        else (qci (qcj (qce f) (qr c).1).1, (qcj (qce f) (qr c).1).2)
      else (qci (qcj (qce f) (qr c).1).1, none)
    else ((qr c).1, none)
section
variable {rec : K → K × Option N} (hm : ∀ c, Mon c (rec c).1)
include hm
theorem qfm (c : K) : Mon c (qb8 rec c).1 := by
  unfold qb8
  split
  · exact qbw c
  · split
    · exact qbw c
    · split
      · split
        · have h1 := ((qbb c).trans (qbw _)).trans (hm _)
          split
          · exact (h1.trans (qx _ _)).trans (qby _)
          · exact h1.trans (qby _)
        · exact qbb c
      · exact qfh c 5
theorem qf2 {c : K} (h : (qb8 rec c).2.isSome = true) : rest (qb8 rec c).1 < rest c := by
  unfold qb8 at h ⊢
  split at h
  · rename_i h1; rw [if_pos h1]; have := qbm (c := c) (by omega); simp only; omega
  · rename_i h1
    rw [if_neg h1]
    split at h
    · rename_i h2; rw [if_pos h2]; have := qbm (c := c) (by omega); simp only; omega
    · rename_i h2
      rw [if_neg h2]
      split at h
      · rename_i hk
        rw [if_pos hk]
        split at h
        · rename_i he
          rw [if_pos he]
          have hp := qbm (c := (qr c).1) (by rw [qei he]; exact qdp hk)
          have h0 := (qbb c).2.1
          have h1 := (hm (qbc (qr c).1)).2.1
          split at h
          · rename_i hr
            rw [if_pos hr]
            have h2 := (qx (rec (qbc (qr c).1)).1 [41]).2.1
            have h3 := (qby (q9 (rec (qbc (qr c).1)).1 [41]).1).2.1
            simp only; omega
          · cases h
        · cases h
      · cases h
theorem qhm : ∀ (f : Nat) (c : K) (acc : List N), Mon c (qeg rec f c acc).1
  | 0, c, acc => Mon.refl c
  | f + 1, c, acc => by
    rw [qeg]
    split
    · split
      · exact (qfm hm c).trans (qhm f _ _)
      · exact qfm hm c
    · exact Mon.refl c
theorem qom (c : K) : Mon c (qcj rec c).1 := by
  unfold qcj
  split
  · exact (qbw c).trans (qhm hm _ _ _)
  · exact qfm hm c
theorem quc {c : K} (h : (qcj rec c).2.isSome = true) : rest (qcj rec c).1 < rest c := by
  unfold qcj at h ⊢
  split at h
  · rename_i h1
    rw [if_pos h1]
    have := qbm (c := c) (by omega)
    have := (qhm hm (rest c + 1) (qbc c) []).2.1
    simp only; omega
  · rename_i h1
    rw [if_neg h1]
    exact qf2 hm h
end
theorem qgl : ∀ (f : Nat) (c : K), Mon c (qce f c).1
  | 0, c => Mon.refl c
  | f + 1, c => by
    have hr := (qbb c).trans (qom (qgl f) (qr c).1)
    rw [qce]
    split
    · split
      · split
        · exact ((hr.trans (qbf _ _)).trans (qgl f _)).trans (qby _)
        · exact hr.trans (qby _)
      · exact hr.trans (qby _)
    · exact qbb c
theorem qzq {c : K} (h : begT c = true) : c.err = 0 := by
  simp only [begT, Bool.or_eq_true, decide_eq_true_eq] at h
  rcases h with (h | h) | h
  · exact (qd4 (by omega)).1
  · exact (qd4 (by omega)).1
  · exact qqm h
theorem qzz {c : K} (h : c.err ≠ 0) : begT c = false := by
  cases hb : begT c with
  | false => rfl
  | true => exact absurd (qzq hb) h
end Go.Proofs.YtmekebfgmjaenaaGreat

/- types: the program -/
set_option maxRecDepth 4000
namespace Go.Proofs.YtmekebfgmjaenaaGreat
open Go Go.RowKit Go.V
set_option linter.unusedVariables false
set_option linter.unusedSimpArgs false

def resP (r : Option N) : AV := .tup [enc (r.getD N0), .bool r.isSome]
attribute [go_sem] resP
theorem q2s (k : Nat) (r : Option N) : (resP r).bd k = true := by simp only [resP, AV.bd, AV.bds, qms, Bool.and_true]
theorem qdk {P : Program} {f : FuncId} {c c' : K} {L : List Ent} {args : List AV} {r : Option N} {Q : List Ent → VO → Prop} (h : qcs P f (curE c) (curE c') args (resP r)) (ha : AV.bds 1 args = true) (hq : Q (curE c' :: L) (.val (resP r))) : VApp P (curE c :: L) (.fn f [] []) args Q :=
  qb4 h (qbk _ _) (qbk _ _) ha (q2s _ _) fun _ => hq
theorem qea : AV.agg [.int .i64 0, .int .i64 0, .int .i64 0, .str [], .sl 5 []] = enc N0 := by simp [N0, enc, encs]
/-- The tree, or nothing. -/
def qk8 (n : N) (b : Bool) : Option N := if b = true then some n else none
theorem q9r (n : N) : qk8 n false = none := rfl
theorem qzw {r : Option N} {b : Bool} (h : r.isSome = true) : qk8 (r.getD N0) b = if b = true then r else none := by
  cases r with
  | none => cases h
  | some n => rfl
theorem q7d (c : K) (n : N) (b : Bool) : qcs Tryz.prog 48 (curE c) (curE c) [.ptr 0 0, enc n, .bool b] (resP (qk8 n b)) := by
  refine qbh c0bu 1 (by simp) (by simp) ?_
  repeat' (first | refine qs ?_ | refine qg ?_ | refine qi ?_ | ((first | refine qu ?_ | refine qq (by rfl) ?_ | refine ql ?_ | refine qj ?_ | refine qo ?_ | refine qt ?_ | refine qn ?_ | refine qm ?_ | refine qp ?_); simp only [go_sem, ↓reduceIte, Nat.reduceEqDiff, Nat.reduceAdd, Nat.reduceSub, Nat.reduceMul, Nat.reduceLT, Nat.reduceLeDiff, reduceCtorEq, Int.reduceToNat]) | ((first | refine qh ?_ ?_ | refine qe ?_ ?_) <;> intro hc <;> simp only [hc, go_sem, ↓reduceIte, Nat.reduceEqDiff, Nat.reduceAdd, Nat.reduceSub, Nat.reduceMul, Nat.reduceLT, Nat.reduceLeDiff, reduceCtorEq, Int.reduceToNat] <;> (try simp only [qb, qa, decide_eq_true_eq, decide_eq_false_iff_not, Bool.and_eq_true] at hc)) | refine And.intro (by first | assumption | omega | (have := qk (by assumption); omega) | (unfold qy; omega)) ?_ | ((first | simp (disch := omega) only [qd] | simp (disch := omega) only [qw]); (try simp only [go_sem, ↓reduceIte, Nat.reduceEqDiff, Nat.reduceAdd, Nat.reduceSub, Nat.reduceMul, Nat.reduceLT, Nat.reduceLeDiff, reduceCtorEq, Int.reduceToNat])))
  all_goals (unfold qk8; simp_all [qea])
theorem qs5 {c : K} {L : List Ent} {n : N} {b : Bool} {Q : List Ent → VO → Prop} (hq : Q (curE c :: L) (.val (resP (qk8 n b)))) : VApp Tryz.prog (curE c :: L) (.fn 48 [] []) [.ptr 0 0, enc n, .bool b] Q := qdk (q7d c n b) (by simp only [AV.bds, AV.bd, qms]; rfl) hq
theorem qu4 {c : K} {L : List Ent} {n m : N} {b : Bool} {Q : List Ent → VO → Prop} (hq : Q (curE c :: L) (.val (resP (qk8 (qh1 n m) b)))) :
    VApp Tryz.prog (curE c :: L) (.fn 48 [] []) [.ptr 0 0, .agg [.int .i64 2, .int .i64 n.pos, .int .i64 0, .str [45, 62], .sl 5 [enc n, enc m]], .bool b] Q := by
  have h := qs5 (n := qh1 n m) hq
  simpa only [qh1, enc, encs] using h
theorem qpx {r : Option N} {g : N → N} : qk8 (g (r.getD N0)) r.isSome = r.map g := by cases r <;> rfl
theorem qww {r : Option N} {n : N} : qk8 (qh1 n (r.getD N0)) r.isSome = r.map (qh1 n) := qpx
theorem qdm {c : K} {x : List UInt8} (h : (qz c x).2 = false) : (qz c x).1 = c := by
  unfold qz at *
  split at h
  · cases h
  · rename_i h1; rw [if_neg h1]
theorem qyp (c : K) : qcs Tryz.prog 115 (curE c) (curE c) [.ptr 0 0] (.bool (begT c)) := by
  refine qbh c0bv 1 (by simp) (by simp) ?_
  repeat' (first | refine qs ?_ | refine qg ?_ | refine qi ?_ | ((first | refine qu ?_ | refine qq (by rfl) ?_ | refine ql ?_ | refine qj ?_ | refine qo ?_ | refine qt ?_ | refine qn ?_ | refine qm ?_ | refine qp ?_ | refine qdw ?_ | refine a_Is ?_); simp only [go_sem, ↓reduceIte, Nat.reduceEqDiff, Nat.reduceAdd, Nat.reduceSub, Nat.reduceMul, Nat.reduceLT, Nat.reduceLeDiff, reduceCtorEq, Int.reduceToNat]) | ((first | refine qh ?_ ?_ | refine qe ?_ ?_) <;> intro hc <;> simp only [hc, go_sem, ↓reduceIte, Nat.reduceEqDiff, Nat.reduceAdd, Nat.reduceSub, Nat.reduceMul, Nat.reduceLT, Nat.reduceLeDiff, reduceCtorEq, Int.reduceToNat] <;> (try simp only [qb, qa, decide_eq_true_eq, decide_eq_false_iff_not, Bool.and_eq_true] at hc)) | refine And.intro (by first | assumption | omega | (have := qk (by assumption); omega) | (unfold qy; omega)) ?_ | ((first | simp (disch := omega) only [qd] | simp (disch := omega) only [qw]); (try simp only [go_sem, ↓reduceIte, Nat.reduceEqDiff, Nat.reduceAdd, Nat.reduceSub, Nat.reduceMul, Nat.reduceLT, Nat.reduceLeDiff, reduceCtorEq, Int.reduceToNat])))
  all_goals (unfold begT; simp_all)
theorem q92 {c : K} {L : List Ent} {Q : List Ent → VO → Prop} (hq : Q (curE c :: L) (.val (.bool (begT c)))) : VApp Tryz.prog (curE c :: L) (.fn 115 [] []) [.ptr 0 0] Q := qb4 (qyp c) (qbk _ _) (qbk _ _) rfl rfl fun _ => hq
theorem qcm {l : List N} (h : l ≠ []) : encs l ≠ [] := by cases l with | nil => exact absurd rfl h | cons _ _ => simp [encs]
def q3f (p : Int) (t : List UInt8) (c : K) (acc : List N) : AF × List Ent :=
  (⟨[(0, .ptr 0 0), (2, .ptr 1 0), (5, .ptr 2 0)], []⟩,
    curE c :: .blk [.int .i64 0, .int .i64 0, .int .i64 0, .str [], .nils] :: .blk [.int .i64 2, .int .i64 p, .int .i64 0, .str t, accV 3 (encs acc)] :: accE 5 (encs acc))
section
variable {rec : K → K × Option N} {b : Nat} (hm : ∀ c, Mon c (rec c).1) (ih : ∀ c, c.good → rest c < b → qcs Tryz.prog 47 (curE c) (curE (rec c).1) [.ptr 0 0] (resP (rec c).2))
include hm ih
theorem qiz (c : K) (hg : c.good) (hr : rest c ≤ b) : qcs Tryz.prog 114 (curE c) (curE (qb8 rec c).1) [.ptr 0 0] (resP (qb8 rec c).2) := by
  have g1 : (qr c).1.good := (qbb c).1 hg
  have g2 : (qbc (qr c).1).good := (qbw _).1 g1
  have g3 : (rec (qbc (qr c).1)).1.good := (hm _).1 g2
  have g4 : (q9 (rec (qbc (qr c).1)).1 [41]).1.good := (qx _ _).1 g3
  have hrr : isK c [40] = true → (qr c).2 = true → rest (qbc (qr c).1) < b := fun h1 h2 => by
    have := qbm (c := (qr c).1) (by rw [qei h2]; exact qdp h1)
    have := (qbb c).2.1
    omega
  refine qbh c0bw 1 (by simp) (by simp) ?_
  repeat' (first | refine qs ?_ | refine qg ?_ | refine qi ?_ | ((first | refine qu ?_ | refine qq (by rfl) ?_ | refine ql ?_ | refine qj ?_ | refine qo ?_ | refine qt ?_ | refine qn ?_ | refine qm ?_ | refine qp ?_ | refine qdw ?_ | refine a_Is ?_ | refine qph ?_ | refine qha ?_ | refine qim hg.ok ?_ | refine qim g1.ok ?_ | refine qdk (ih _ g2 (hrr (by assumption) (by assumption))) rfl ?_ | refine qd2 g3.ok ?_ | refine qfl g4.2.2 ?_ | refine qfl g3.2.2 ?_ | refine qs5 ?_); simp only [go_sem, ↓reduceIte, Nat.reduceEqDiff, Nat.reduceAdd, Nat.reduceSub, Nat.reduceMul, Nat.reduceLT, Nat.reduceLeDiff, reduceCtorEq, Int.reduceToNat]) | ((first | refine qh ?_ ?_ | refine qe ?_ ?_) <;> intro hc <;> simp only [hc, go_sem, ↓reduceIte, Nat.reduceEqDiff, Nat.reduceAdd, Nat.reduceSub, Nat.reduceMul, Nat.reduceLT, Nat.reduceLeDiff, reduceCtorEq, Int.reduceToNat] <;> (try simp only [qb, qa, decide_eq_true_eq, decide_eq_false_iff_not, Bool.and_eq_true] at hc)) | refine And.intro (by first | assumption | omega | (have := qk (by assumption); omega) | (unfold qy; omega)) ?_ | ((first | simp (disch := omega) only [qd] | simp (disch := omega) only [qw]); (try simp only [go_sem, ↓reduceIte, Nat.reduceEqDiff, Nat.reduceAdd, Nat.reduceSub, Nat.reduceMul, Nat.reduceLT, Nat.reduceLeDiff, reduceCtorEq, Int.reduceToNat])))
  all_goals (try simp only [qzw (r := (rec (qbc (qr c).1)).2) (by assumption)])
  all_goals (try simp only [q9r])
  all_goals (unfold qb8 qh4; simp only [*, qea, Int.reduceEq, if_true, if_false, reduceIte, Bool.false_eq_true, Option.getD_none, Option.getD_some, Option.isSome_none, Option.isSome_some, and_self, true_and, and_true]; try rfl)
theorem qbef (c : K) (hg : c.good) (hr : rest c ≤ b) : qcs Tryz.prog 83 (curE c) (curE (qcj rec c).1) [.ptr 0 0] (resP (qcj rec c).2) := by
  refine qbh c0bx 1 (by simp) (by simp) ?_
  by_cases hk : (qbg c).kind = 2
  · have g1 : (qbc c).good := (qbw _).1 hg
    have hpa : qcj rec c = ((qeg rec (rest c + 1) (qbc c) []).1, (qeg rec (rest c + 1) (qbc c) []).2.map (qh4 c 2)) := by rw [qcj, if_pos hk]
    rw [hpa]
    clear hpa
    generalize htg : qeg rec (rest c + 1) (qbc c) [] = tg
    have hmt : Mon (qbc c) tg.1 := htg ▸ qhm hm _ _ _
    have hrn := qbm (c := c) (by omega)
    repeat' (first | refine qs ?_ | refine qg ?_ | refine qi ?_ | ((first | refine qu ?_ | refine qq (by rfl) ?_ | refine ql ?_ | refine qj ?_ | refine qo ?_ | refine qt ?_ | refine qn ?_ | refine qm ?_ | refine qp ?_); simp (disch := first | omega | (simp only [List.length_set, List.length_append, List.length_cons, List.length_nil]; done) | (simp only [List.length_set, List.length_append, List.length_cons, List.length_nil]; omega)) only [hk, Int.reduceEq, go_sem, ↓reduceIte, Nat.reduceEqDiff, Nat.reduceAdd, Nat.reduceSub, Nat.reduceMul, Nat.reduceLT, Nat.reduceLeDiff, reduceCtorEq, Int.reduceToNat]) | ((first | refine qh ?_ ?_ | refine qe ?_ ?_) <;> intro hc <;> simp only [hc, go_sem, ↓reduceIte, Nat.reduceEqDiff, Nat.reduceAdd, Nat.reduceSub, Nat.reduceMul, Nat.reduceLT, Nat.reduceLeDiff, reduceCtorEq, Int.reduceToNat] <;> (try simp only [qb, qa, decide_eq_true_eq, decide_eq_false_iff_not, Bool.and_eq_true] at hc)) | refine And.intro (by first | assumption | omega | (have := qk (by assumption); omega) | (unfold qy; omega)) ?_ | ((first | simp (disch := omega) only [qd] | simp (disch := omega) only [qw]); (try simp only [go_sem, ↓reduceIte, Nat.reduceEqDiff, Nat.reduceAdd, Nat.reduceSub, Nat.reduceMul, Nat.reduceLT, Nat.reduceLeDiff, reduceCtorEq, Int.reduceToNat])) | ((first | refine qdw ?_ | refine qim hg.ok ?_); simp only [go_sem, ↓reduceIte, Nat.reduceEqDiff, Nat.reduceAdd, Nat.reduceSub, Nat.reduceMul, Nat.reduceLT, Nat.reduceLeDiff, reduceCtorEq, Int.reduceToNat]))
    refine qca (S := Nat × K × List N) (fun x => x.2.1.good ∧ rest x.2.1 ≤ b ∧ qeg rec x.1 x.2.1 x.2.2 = tg ∧ rest x.2.1 < x.1 ∧ x.2.2.length + rest x.2.1 ≤ 1048577)
      (fun x => q3f (qbg c).pos (qbg c).text x.2.1 x.2.2) (fun x => rest x.2.1 + 1) ?_ ?_
    · refine qbt (rest c + 1, qbc c, []) [0, 1, 3] ⟨g1, by simp only; omega, htg, by simp only; omega, ?_⟩ rfl (by simp) ?_ ?_ ?_
      · have h9 := g1.rest
        unfold rest
        simp only [List.length_nil]
        omega
      all_goals simp only [q3f, encs, qbv, qbx]
      all_goals simp only [go_sem, ↓reduceIte, Nat.reduceEqDiff, Nat.reduceAdd, Nat.reduceSub, Nat.reduceMul, Nat.reduceLT, Nat.reduceLeDiff, reduceCtorEq, Int.reduceToNat]
    · rintro ⟨fu, d, acc⟩ ⟨i1, i2, i3, i4, i5⟩
      simp only at i1 i2 i3 i4 i5
      unfold q3f
      obtain ⟨fu, rfl⟩ : ∃ k, fu = k + 1 := ⟨fu - 1, by omega⟩
      rw [qeg] at i3
      have hcap : qy (acc.length + 1) 64 := capN (by omega)
      have j1 : (qb8 rec d).1.good := (qfm hm d).1 i1
      have j2 : rest (qb8 rec d).1 ≤ rest d := (qfm hm d).2.1
      by_cases h0 : acc = []
      · subst h0
        simp only [encs, qbv, qbx]
        repeat' (first | refine qs ?_ | refine qg ?_ | refine qi ?_ | ((first | refine qu ?_ | refine qq (by rfl) ?_ | refine ql ?_ | refine qj ?_ | refine qo ?_ | refine qt ?_ | refine qn ?_ | refine qm ?_ | refine qp ?_ | refine q92 ?_ | refine qdk (qiz hm ih _ i1 i2) rfl ?_); simp only [go_sem, ↓reduceIte, Nat.reduceEqDiff, Nat.reduceAdd, Nat.reduceSub, Nat.reduceMul, Nat.reduceLT, Nat.reduceLeDiff, reduceCtorEq, Int.reduceToNat]) | ((first | refine qh ?_ ?_ | refine qe ?_ ?_) <;> intro hc <;> simp only [hc, go_sem, ↓reduceIte, Nat.reduceEqDiff, Nat.reduceAdd, Nat.reduceSub, Nat.reduceMul, Nat.reduceLT, Nat.reduceLeDiff, reduceCtorEq, Int.reduceToNat] <;> (try simp only [qb, qa, decide_eq_true_eq, decide_eq_false_iff_not, Bool.and_eq_true] at hc)) | refine And.intro (by first | assumption | omega | (have := qk (by assumption); omega) | (unfold qy; omega)) ?_ | ((first | simp (disch := omega) only [qd] | simp (disch := omega) only [qw]); (try simp only [go_sem, ↓reduceIte, Nat.reduceEqDiff, Nat.reduceAdd, Nat.reduceSub, Nat.reduceMul, Nat.reduceLT, Nat.reduceLeDiff, reduceCtorEq, Int.reduceToNat])))
        · have hb : begT d = true := by assumption
          have hs : (qb8 rec d).2.isSome = false := by assumption
          rw [if_pos hb, if_neg (by rw [hs]; simp)] at i3
          subst i3
          exact ⟨rfl, by rw [qea]; rfl⟩
        · have hb : begT d = true := by assumption
          have hs : (qb8 rec d).2.isSome = true := by assumption
          rw [if_pos hb, if_pos hs] at i3
          have hlt := qf2 hm hs
          refine qbt (fu, (qb8 rec d).1, [] ++ [(qb8 rec d).2.getD N0]) [0, 1, 2, 4] ⟨⟨j1, by simp only; omega, i3, by simp only; omega, ?_⟩, by simp only; omega⟩ rfl (by simp) ?_ ?_ ?_
          · simp only [List.length_append, List.length_cons, List.length_nil]; omega
          all_goals simp only [q3f, ← qba, qct, qcv, List.nil_append, encs, qdg, qde]
          all_goals simp only [go_sem, ↓reduceIte, Nat.reduceEqDiff, Nat.reduceAdd, Nat.reduceSub, Nat.reduceMul, Nat.reduceLT, Nat.reduceLeDiff, reduceCtorEq, Int.reduceToNat]
        · have hb : begT d = false := by assumption
          rw [if_neg (by rw [hb]; simp)] at i3
          subst i3
          simp only [Option.map_some, Option.getD_some, Option.isSome_some, enc, encs, qh4, and_self]
      · have hne := qcm h0
        simp only [qcb hne, qcc hne, qb3]
        repeat' (first | refine qs ?_ | refine qg ?_ | refine qi ?_ | ((first | refine qu ?_ | refine qq (by rfl) ?_ | refine ql ?_ | refine qj ?_ | refine qo ?_ | refine qt ?_ | refine qn ?_ | refine qm ?_ | refine qp ?_ | refine q92 ?_ | refine qdk (qiz hm ih _ i1 i2) rfl ?_); simp only [go_sem, ↓reduceIte, Nat.reduceEqDiff, Nat.reduceAdd, Nat.reduceSub, Nat.reduceMul, Nat.reduceLT, Nat.reduceLeDiff, reduceCtorEq, Int.reduceToNat]) | ((first | refine qh ?_ ?_ | refine qe ?_ ?_) <;> intro hc <;> simp only [hc, go_sem, ↓reduceIte, Nat.reduceEqDiff, Nat.reduceAdd, Nat.reduceSub, Nat.reduceMul, Nat.reduceLT, Nat.reduceLeDiff, reduceCtorEq, Int.reduceToNat] <;> (try simp only [qb, qa, decide_eq_true_eq, decide_eq_false_iff_not, Bool.and_eq_true] at hc)) | refine And.intro (by first | assumption | omega | (have := qk (by assumption); omega) | (unfold qy; omega)) ?_ | ((first | simp (disch := omega) only [qd] | simp (disch := omega) only [qw]); (try simp only [go_sem, ↓reduceIte, Nat.reduceEqDiff, Nat.reduceAdd, Nat.reduceSub, Nat.reduceMul, Nat.reduceLT, Nat.reduceLeDiff, reduceCtorEq, Int.reduceToNat])))
        · have hb : begT d = true := by assumption
          have hs : (qb8 rec d).2.isSome = false := by assumption
          rw [if_pos hb, if_neg (by rw [hs]; simp)] at i3
          subst i3
          exact ⟨rfl, by rw [qea]; rfl⟩
        · have hb : begT d = true := by assumption
          have hs : (qb8 rec d).2.isSome = true := by assumption
          rw [if_pos hb, if_pos hs] at i3
          have hlt := qf2 hm hs
          refine qbt (fu, (qb8 rec d).1, acc ++ [(qb8 rec d).2.getD N0]) [0, 1, 2, 5] ⟨⟨j1, by simp only; omega, i3, by simp only; omega, ?_⟩, by simp only; omega⟩ rfl (by simp) ?_ ?_ ?_
          · simp only [List.length_append, List.length_cons, List.length_nil]; omega
          all_goals simp only [q3f, ← qba, qct, qcv, List.nil_append, encs, qdg, qde]
          all_goals simp only [go_sem, ↓reduceIte, Nat.reduceEqDiff, Nat.reduceAdd, Nat.reduceSub, Nat.reduceMul, Nat.reduceLT, Nat.reduceLeDiff, reduceCtorEq, Int.reduceToNat]
          rw [qba, qcd, qc4]; exact ⟨rfl, rfl⟩
        · have hb : begT d = false := by assumption
          rw [if_neg (by rw [hb]; simp)] at i3
          subst i3
          simp only [Option.map_some, Option.getD_some, Option.isSome_some, enc, encs, qh4, and_self]
  · repeat' (first | refine qs ?_ | refine qg ?_ | refine qi ?_ | ((first | refine qu ?_ | refine qq (by rfl) ?_ | refine ql ?_ | refine qj ?_ | refine qo ?_ | refine qt ?_ | refine qn ?_ | refine qm ?_ | refine qp ?_); simp (disch := first | omega | (simp only [List.length_set, List.length_append, List.length_cons, List.length_nil]; done) | (simp only [List.length_set, List.length_append, List.length_cons, List.length_nil]; omega)) only [hk, go_sem, ↓reduceIte, Nat.reduceEqDiff, Nat.reduceAdd, Nat.reduceSub, Nat.reduceMul, Nat.reduceLT, Nat.reduceLeDiff, reduceCtorEq, Int.reduceToNat]) | ((first | refine qh ?_ ?_ | refine qe ?_ ?_) <;> intro hc <;> simp only [hc, go_sem, ↓reduceIte, Nat.reduceEqDiff, Nat.reduceAdd, Nat.reduceSub, Nat.reduceMul, Nat.reduceLT, Nat.reduceLeDiff, reduceCtorEq, Int.reduceToNat] <;> (try simp only [qb, qa, decide_eq_true_eq, decide_eq_false_iff_not, Bool.and_eq_true] at hc)) | refine And.intro (by first | assumption | omega | (have := qk (by assumption); omega) | (unfold qy; omega)) ?_ | ((first | simp (disch := omega) only [qd] | simp (disch := omega) only [qw]); (try simp only [go_sem, ↓reduceIte, Nat.reduceEqDiff, Nat.reduceAdd, Nat.reduceSub, Nat.reduceMul, Nat.reduceLT, Nat.reduceLeDiff, reduceCtorEq, Int.reduceToNat])) | ((first | refine qdw ?_ | refine qdk (qiz hm ih c hg hr) rfl ?_); simp only [go_sem, ↓reduceIte, Nat.reduceEqDiff, Nat.reduceAdd, Nat.reduceSub, Nat.reduceMul, Nat.reduceLT, Nat.reduceLeDiff, reduceCtorEq, Int.reduceToNat]))
    rw [qcj, if_neg hk]; exact ⟨rfl, rfl⟩
end
theorem qt3 {f : Nat} (ih : ∀ c, c.good → rest c < f → qcs Tryz.prog 47 (curE c) (curE (qce f c).1) [.ptr 0 0] (resP (qce f c).2)) (c : K) (hg : c.good) (hr : rest c < f + 1) :
    qcs Tryz.prog 47 (curE c) (curE (qce (f + 1) c).1) [.ptr 0 0] (resP (qce (f + 1) c).2) := by
  have hm := qgl f
  have g1 : (qr c).1.good := (qbb c).1 hg
  have hr1 : rest (qr c).1 ≤ f := by have := (qbb c).2.1; omega
  have hrow := qbef hm ih _ g1 hr1
  have mrow := qom hm (qr c).1
  have lrow := quc hm (c := (qr c).1)
  have hpa : qce (f + 1) c = if (qr c).2 = true then
      if (qcj (qce f) (qr c).1).2.isSome = true then
        if (qz (qcj (qce f) (qr c).1).1 [45, 62]).2 = true then
          (qci (qce f (qz (qcj (qce f) (qr c).1).1 [45, 62]).1).1, (qce f (qz (qcj (qce f) (qr c).1).1 [45, 62]).1).2.map (qh1 ((qcj (qce f) (qr c).1).2.getD N0)))
        else (qci (qcj (qce f) (qr c).1).1, (qcj (qce f) (qr c).1).2)
      else (qci (qcj (qce f) (qr c).1).1, none)
    else ((qr c).1, none) := by rw [qce]
  rw [hpa]
  clear hpa
  generalize qcj (qce f) (qr c).1 = r at *
  have g2 : r.1.good := mrow.1 g1
  have g3 : (qz r.1 [45, 62]).1.good := (qbf _ _).1 g2
  have g4 : (qce f (qz r.1 [45, 62]).1).1.good := (hm _).1 g3
  have hlt : r.2.isSome = true → rest (qz r.1 [45, 62]).1 < f := fun h => by
    have := lrow h
    have := (qbf r.1 [45, 62]).2.1
    omega
  refine qbh c0by 1 (by simp) (by simp) ?_
  repeat' (first | refine qs ?_ | refine qg ?_ | refine qi ?_ | ((first | refine qu ?_ | refine qq (by rfl) ?_ | refine ql ?_ | refine qj ?_ | refine qo ?_ | refine qt ?_ | refine qn ?_ | refine qm ?_ | refine qp ?_ | refine qha ?_ | refine qdk hrow rfl ?_ | refine qff g2.ok ?_ | refine qdk (ih _ g3 (hlt (by assumption))) rfl ?_ | refine qfl g4.2.2 ?_ | refine qfl g3.2.2 ?_ | refine qfl g2.2.2 ?_ | refine qs5 ?_ | refine qu4 ?_); simp only [go_sem, ↓reduceIte, Nat.reduceEqDiff, Nat.reduceAdd, Nat.reduceSub, Nat.reduceMul, Nat.reduceLT, Nat.reduceLeDiff, reduceCtorEq, Int.reduceToNat]) | ((first | refine qh ?_ ?_ | refine qe ?_ ?_) <;> intro hc <;> simp only [hc, go_sem, ↓reduceIte, Nat.reduceEqDiff, Nat.reduceAdd, Nat.reduceSub, Nat.reduceMul, Nat.reduceLT, Nat.reduceLeDiff, reduceCtorEq, Int.reduceToNat] <;> (try simp only [qb, qa, decide_eq_true_eq, decide_eq_false_iff_not, Bool.and_eq_true] at hc)) | refine And.intro (by first | assumption | omega | (have := qk (by assumption); omega) | (unfold qy; omega)) ?_ | ((first | simp (disch := omega) only [qd] | simp (disch := omega) only [qw]); (try simp only [go_sem, ↓reduceIte, Nat.reduceEqDiff, Nat.reduceAdd, Nat.reduceSub, Nat.reduceMul, Nat.reduceLT, Nat.reduceLeDiff, reduceCtorEq, Int.reduceToNat])))
  all_goals (try simp only [qdm (c := r.1) (by assumption)])
  all_goals (try simp only [qzw (r := r.2) (by assumption)])
  all_goals (try simp only [q9r, qww])
  all_goals (simp only [*, qea, if_true, if_false, reduceIte, Bool.false_eq_true, Option.getD_none, Option.getD_some, Option.isSome_none, Option.isSome_some, and_self, true_and, and_true]; try rfl)
theorem q0a (f : Nat) : ∀ c : K, c.good → rest c < f → qcs Tryz.prog 47 (curE c) (curE (qce f c).1) [.ptr 0 0] (resP (qce f c).2) := by
  induction f with
  | zero => exact fun c _ h => absurd h (by omega)
  | succ f ih => exact qt3 ih
end Go.Proofs.YtmekebfgmjaenaaGreat
