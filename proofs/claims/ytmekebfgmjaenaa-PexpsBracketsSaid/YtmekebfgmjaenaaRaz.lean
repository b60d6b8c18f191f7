/- Texts of this proof, joined. -/
import Derived.Test.YtmekebfgmjaenaaRaw
import Derived.Test.YtmekebfgmjaenaaRay

/- the cursor: in other places; texts; trees that are whole -/
namespace Go.Proofs.Ytmekebfgmjaenaa
open Go Go.RowKit Go.V
set_option linter.unusedVariables false
set_option linter.unusedSimpArgs false

section
variable {P : Program} {f : FuncId} {e e' : Ent} {L : List Ent} {args0 args : List AV} {r : AV} {Q : List Ent → VO → Prop}
/-- The call's entry lies at place k. -/
theorem qv8 (k : Nat) (h : qb8 P f e e' args0 r) (hk : L[k]? = some e) (hb : e.bd 0 = true) (hb' : e'.bd 0 = true) (ha : AV.bds 1 args0 = true) (hr : r.bd 0 = true) (hs : AV.rens (sg [k]) args0 = args) (hq : r.wf → Q (L.set k e') (.val r)) :
    VApp P L (.fn f [] []) args Q :=
  qgg (first := []) (caps := []) (by
    simp only [List.nil_append, List.append_nil]
    rw [← hs]
    have hlt : k < L.length := (List.getElem?_eq_some_iff.1 hk).1
    refine qfc (H0 := [e]) [k] (h.mono' (Q' := fun H' o => (H' = [e'] ∧ o = .val r) ∧ r.wf) fun H' o hw ho => ⟨ho, by have := ho.2; subst this; exact hw⟩) (by simp) (by simpa using hlt) rfl ?_ ha ?_
    · intro j e2 hj
      obtain rfl : j = 0 := by have := (List.getElem?_eq_some_iff.1 hj).1; simp at this; omega
      simp only [List.getElem?_cons_zero, Option.some.injEq] at hj
      subst hj
      exact .inr ⟨Ent.bd_le (Nat.zero_le _) _ hb, by rw [Ent.ren_same (m := 0) (fun i hi => by omega) _ hb]; exact hk⟩
    · rintro H1 o ⟨⟨rfl, rfl⟩, hw⟩
      have h1 : e'.ren (sg' [k] L.length) = e' := Ent.ren_same (m := 0) (fun i hi => by omega) _ hb'
      have h2 : r.ren (sg' [k] L.length) = r := ren_same (m := 0) (fun i hi => by omega) _ hr
      simp only [List.length_cons, List.length_nil, List.take_succ_cons, List.take_zero, List.map_cons, List.map_nil, qb5, h1, VO.ren, h2, List.drop_succ_cons, List.drop_nil, List.append_nil]
      exact hq hw)
/-- A call that makes an entry. -/
theorem q6l (h : VCalls P f [] args fun H' o => H' = [e] ∧ o = .val (.ptr 0 0)) (hb : e.bd 0 = true) (ha : AV.bds 0 args = true) (hq : Q (L ++ [e]) (.val (.ptr L.length 0))) : VApp P L (.fn f [] []) args Q :=
  qgg (first := []) (caps := []) (by
    simp only [List.nil_append, List.append_nil]
    have hs : AV.rens (sg []) args = args := qb2 (m := 0) (fun i hi => by omega) _ ha
    rw [← hs]
    refine qfc (H0 := []) [] h (by simp) (by simp) rfl (fun j e2 hj => by simp at hj) ha ?_
    rintro H1 o ⟨rfl, rfl⟩
    have h1 : e.ren (sg' [] L.length) = e := Ent.ren_same (m := 0) (fun i hi => by omega) _ hb
    simp only [List.length_nil, List.take_zero, List.map_nil, qb5, List.drop_zero, List.map_cons, h1, VO.ren, AV.ren, sg', Nat.not_lt_zero, if_false, Nat.sub_zero, Nat.add_zero]
    exact hq)
end
theorem qjc (s : List UInt8) : (lexV s).1.length ≤ 1048577 ∧ (lexV s).1.length ≤ s.length + 1 := by
  by_cases h : 1048576 < (s.length : Int)
  · rw [qwe h]; simp
  · have hll : (lexG s (qcc s)).1.length ≤ s.length := by have := qqz (s := s) (s.length - qcc s) (qcc s); unfold lexG; omega
    by_cases he : (lexG s (qcc s)).2.2 = 0
    · rw [quv h he]; simp only [List.length_append, List.length_cons, List.length_nil]; omega
    · rw [qp3 h he]; simp
theorem qyr {n : N} (h : sz n ≤ 1000000) : (qej (fun (k : Int) l _ => (if l > k then l else k, true)) n 1 0).1 = depR n := by
  show (qej dpF n 1 0).1 = depR n
  rw [qbax n 1 0 (by omega) (by omega), q8t n (by omega)]
  have := q48 n
  simp only; omega

/-! The cursor: it has gone on, if it has gone; a failure stays. -/
def K.good (c : K) : Prop := c.at' ≤ c.l.length ∧ c.l.length ≤ 1048577 ∧ c.nest ≤ 200
def rest (c : K) : Nat := c.l.length - c.at'
theorem K.good.ok {c : K} (h : c.good) : c.ok := ⟨h.1, Nat.le_trans h.2.1 (by unfold maxLen; omega)⟩
theorem K.good.rest {c : K} (h : c.good) : c.l.length - c.at' ≤ 1048577 := by have := h.2.1; omega
theorem capN {n : Nat} (h : n ≤ 1048580) : qs n 64 := by unfold qs; omega
def Mon (c c' : K) : Prop := (c.good → c'.good) ∧ rest c' ≤ rest c ∧ (c.err ≠ 0 → c'.err = c.err) ∧ c'.l = c.l
theorem Mon.refl (c : K) : Mon c c := ⟨id, Nat.le_refl _, fun _ => rfl, rfl⟩
theorem Mon.trans {a b c : K} (h : Mon a b) (k : Mon b c) : Mon a c := ⟨fun g => k.1 (h.1 g), Nat.le_trans k.2.1 h.2.1, fun e => (k.2.2.1 (by rw [h.2.2.1 e]; exact e)).trans (h.2.2.1 e), k.2.2.2.trans h.2.2.2⟩
def em (c : K) : Nat := if c.err = 0 then rest c + 1 else 0
theorem Mon.em {c c' : K} (h : Mon c c') : em c' ≤ em c := by
  unfold Go.Proofs.Ytmekebfgmjaenaa.em
  have := h.2.1
  split
  · split
    · omega
    · rename_i h1 h2; exact absurd h1 (by rw [h.2.2.1 h2]; exact h2)
  · omega
theorem qxv (c : K) : em c ≤ rest c + 1 := by unfold em; split <;> omega
theorem qbjx {c : K} (h : c.err ≠ 0) : em c = 0 := if_neg h
theorem qbef {c : K} (h : c.err = 0) : em c = rest c + 1 := if_pos h
theorem qgz (c : K) {e : Int} : (qee c e).err ≠ 0 := by
  unfold qee
  split
  · simp only; split
    · simp
    · assumption
  · assumption
theorem qbm (c : K) : Mon c (qt c) := by
  unfold qt
  split
  · split
    · exact ⟨fun h => ⟨by simp only; omega, h.2⟩, by unfold rest; simp only; omega, fun _ => rfl, rfl⟩
    · exact Mon.refl c
  · exact Mon.refl c
theorem qd7 (c : K) (e : Int) : Mon c (qee c e) := by
  refine ⟨?_, ?_, fun h => by rw [qex h], ?_⟩ <;> unfold qee <;> split <;> first | exact id | exact Nat.le_refl _ | rfl
theorem qv (c : K) : Mon c (qe c).1 := by
  unfold qe
  split
  · split
    · rename_i h1; exact ⟨fun h => ⟨h.1, h.2.1, by simp only; omega⟩, Nat.le_refl _, fun _ => rfl, rfl⟩
    · exact qd7 c 2
  · exact Mon.refl c
theorem qbc (c : K) : Mon c (qbn c) := by
  unfold qbn
  split
  · split
    · exact ⟨fun h => ⟨h.1, h.2.1, by have := h.2.2; simp only; omega⟩, Nat.le_refl _, fun _ => rfl, rfl⟩
    · exact Mon.refl c
  · exact Mon.refl c
theorem q6 (c : K) (x : List UInt8) : Mon c (qp c x).1 := by
  unfold qp
  split
  · exact qbm c
  · exact Mon.refl c
theorem qo (c : K) (x : List UInt8) : Mon c (qq c x).1 := by
  unfold qq
  split
  · exact qbm c
  · exact qd7 c 5
theorem qff {c : K} (h : (qw c).kind ≠ 0) : c.err = 0 ∧ c.at' < c.l.length := by
  unfold qw at h
  split at h
  · rename_i h1
    split at h
    · rename_i h2; exact ⟨h1, h2⟩
    · exact absurd rfl h
  · exact absurd rfl h
theorem qbg {c : K} (h : (qw c).kind ≠ 0) : rest (qt c) + 1 = rest c := by
  obtain ⟨h1, h2⟩ := qff h
  rw [qq5 h1 (by omega)]
  unfold rest; simp only; omega
theorem qcg {c : K} {x : List UInt8} (h : isK c x = true) : (qw c).kind ≠ 0 := by
  simp only [isK, qe6, Bool.and_eq_true, Bool.or_eq_true, decide_eq_true_eq] at h
  omega
theorem qtn {c : K} {x : List UInt8} (h : isK c x = true) : c.err = 0 := by
  simp only [isK, Bool.and_eq_true, decide_eq_true_eq] at h
  exact h.1
theorem qhw {c : K} (h : (qe c).2 = true) : c.err = 0 ∧ (qe c).1.err = 0 ∧ (qe c).1 = { c with nest := c.nest + 1 } := by
  unfold qe at h ⊢
  split at h
  · rename_i h1
    split at h
    · rename_i h2; rw [if_pos h1, if_pos h2]; exact ⟨h1, h1, rfl⟩
    · cases h
  · cases h
theorem qcp {c : K} (h : (qe c).2 = true) : qw (qe c).1 = qw c := by rw [(qhw h).2.2]; rfl
theorem qlt {c : K} {x : List UInt8} (h : (qe c).2 = true) : isK (qe c).1 x = isK c x := by rw [(qhw h).2.2]; rfl
theorem qet {c : K} (h : (qe c).2 = false) : (qe c).1.err ≠ 0 := by
  unfold qe at h ⊢
  split at h
  · rename_i h1
    split at h
    · cases h
    · rename_i h2; rw [if_pos h1, if_neg h2]; exact qgz c
  · rename_i h1; rw [if_neg h1]; exact h1
theorem qdg {c : K} {x : List UInt8} (h : (qq c x).2 = false) : (qq c x).1.err ≠ 0 := by
  unfold qq at h ⊢
  split at h
  · cases h
  · rename_i h1; rw [if_neg h1]; exact qgz c
theorem qb1 {c : K} (h : c.err ≠ 0) : qbn c = c := if_neg h
theorem qqo {c : K} {x : List UInt8} (h : c.err ≠ 0) : isK c x = false := by
  simp only [isK, decide_eq_false h, Bool.false_and]
theorem qbv {c : K} {x : List UInt8} (h : c.err ≠ 0) : qq c x = (c, false) := by
  rw [qq, if_neg (by rw [qqo h]; simp), qex h]
theorem qen {c : K} {x : List UInt8} (h : c.err ≠ 0) : qp c x = (c, false) := qfs (qqo h)
theorem qg3 {c : K} {x : List UInt8} (h : isK c x = true) : qq c x = (qt c, true) := if_pos h

/-! Types: the program. -/
def begT (c : K) : Bool := decide ((qw c).kind = 1) || decide ((qw c).kind = 2) || isK c [40]
def qg7 (c : K) (k : Int) (ks : List N) : N := .mk k (qw c).pos 0 (qw c).text ks
def qbl (rec : K → K × Option N) (c : K) : K × Option N :=
  if (qw c).kind = 1 then (qt c, some (qg7 c 1 []))
  else if (qw c).kind = 2 then (qt c, some (qg7 c 2 []))
  else if isK c [40] = true then
    if (qe c).2 = true then
      if (rec (qt (qe c).1)).2.isSome = true then
        (qbn (qq (rec (qt (qe c).1)).1 [41]).1, if (qq (rec (qt (qe c).1)).1 [41]).2 = true then (rec (qt (qe c).1)).2 else none)
      else (qbn (rec (qt (qe c).1)).1, none)
    else ((qe c).1, none)
  else (qee c 5, none)
def qcy (rec : K → K × Option N) : Nat → K → List N → K × Option (List N)
  | 0, c, acc => (c, none)
  | f + 1, c, acc =>
    if begT c = true then
      if (qbl rec c).2.isSome = true then qcy rec f (qbl rec c).1 (acc ++ [(qbl rec c).2.getD N0])
      else ((qbl rec c).1, none)
    else (c, some acc)
def qbu (rec : K → K × Option N) (c : K) : K × Option N :=
  if (qw c).kind = 2 then ((qcy rec (rest c + 1) (qt c) []).1, (qcy rec (rest c + 1) (qt c) []).2.map (qg7 c 2))
  else qbl rec c
def qir (n m : N) : N := .mk 2 n.pos 0 [45, 62] [n, m]
def qbo : Nat → K → K × Option N
  | 0, c => (c, none)
  | f + 1, c =>
    if (qe c).2 = true then
      if (qbu (qbo f) (qe c).1).2.isSome = true then
        if (qp (qbu (qbo f) (qe c).1).1 [45, 62]).2 = true then
          (qbn (qbo f (qp (qbu (qbo f) (qe c).1).1 [45, 62]).1).1, (qbo f (qp (qbu (qbo f) (qe c).1).1 [45, 62]).1).2.map (qir ((qbu (qbo f) (qe c).1).2.getD N0)))
        else (qbn (qbu (qbo f) (qe c).1).1, (qbu (qbo f) (qe c).1).2)
      else (qbn (qbu (qbo f) (qe c).1).1, none)
    else ((qe c).1, none)
section
variable {rec : K → K × Option N} (hm : ∀ c, Mon c (rec c).1)
include hm
theorem qeh (c : K) : Mon c (qbl rec c).1 := by
  unfold qbl
  split
  · exact qbm c
  · split
    · exact qbm c
    · split
      · split
        · have h1 := ((qv c).trans (qbm _)).trans (hm _)
          split
          · exact (h1.trans (qo _ _)).trans (qbc _)
          · exact h1.trans (qbc _)
        · exact qv c
      · exact qd7 c 5
theorem qeu {c : K} (h : (qbl rec c).2.isSome = true) : rest (qbl rec c).1 < rest c := by
  unfold qbl at h ⊢
  split at h
  · rename_i h1; rw [if_pos h1]; have := qbg (c := c) (by omega); simp only; omega
  · rename_i h1
    rw [if_neg h1]
    split at h
    · rename_i h2; rw [if_pos h2]; have := qbg (c := c) (by omega); simp only; omega
    · rename_i h2
      rw [if_neg h2]
      split at h
      · rename_i hk
        rw [if_pos hk]
        split at h
        · rename_i he
          rw [if_pos he]
          have hp := qbg (c := (qe c).1) (by rw [qcp he]; exact qcg hk)
          have h0 := (qv c).2.1
          have h1 := (hm (qt (qe c).1)).2.1
          split at h
          · rename_i hr
            rw [if_pos hr]
            have h2 := (qo (rec (qt (qe c).1)).1 [41]).2.1
            have h3 := (qbc (qq (rec (qt (qe c).1)).1 [41]).1).2.1
            simp only; omega
          · cases h
        · cases h
      · cases h
theorem qgx : ∀ (f : Nat) (c : K) (acc : List N), Mon c (qcy rec f c acc).1
  | 0, c, acc => Mon.refl c
  | f + 1, c, acc => by
    rw [qcy]
    split
    · split
      · exact (qeh hm c).trans (qgx f _ _)
      · exact qeh hm c
    · exact Mon.refl c
theorem qo2 (c : K) : Mon c (qbu rec c).1 := by
  unfold qbu
  split
  · exact (qbm c).trans (qgx hm _ _ _)
  · exact qeh hm c
theorem qut {c : K} (h : (qbu rec c).2.isSome = true) : rest (qbu rec c).1 < rest c := by
  unfold qbu at h ⊢
  split at h
  · rename_i h1
    rw [if_pos h1]
    have := qbg (c := c) (by omega)
    have := (qgx hm (rest c + 1) (qt c) []).2.1
    simp only; omega
  · rename_i h1
    rw [if_neg h1]
    exact qeu hm h
end
theorem qfm : ∀ (f : Nat) (c : K), Mon c (qbo f c).1
  | 0, c => Mon.refl c
  | f + 1, c => by
    have hr := (qv c).trans (qo2 (qfm f) (qe c).1)
    rw [qbo]
    split
    · split
      · split
        · exact ((hr.trans (q6 _ _)).trans (qfm f _)).trans (qbc _)
        · exact hr.trans (qbc _)
      · exact hr.trans (qbc _)
    · exact qv c
theorem qzt {c : K} (h : begT c = true) : c.err = 0 := by
  simp only [begT, Bool.or_eq_true, decide_eq_true_eq] at h
  rcases h with (h | h) | h
  · exact (qff (by omega)).1
  · exact (qff (by omega)).1
  · exact qtn h
theorem q9d {c : K} (h : c.err ≠ 0) : begT c = false := by
  cases hb : begT c with
  | false => rfl
  | true => exact absurd (qzt hb) h
set_option maxRecDepth 4000

def resP (r : Option N) : AV := .tup [enc (r.getD N0), .bool r.isSome]
attribute [go_sem] resP
theorem q1a (k : Nat) (r : Option N) : (resP r).bd k = true := by simp only [resP, AV.bd, AV.bds, ql4, Bool.and_true]
theorem qc3 {P : Program} {f : FuncId} {c c' : K} {L : List Ent} {args : List AV} {r : Option N} {Q : List Ent → VO → Prop} (h : qb8 P f (curE c) (curE c') args (resP r)) (ha : AV.bds 1 args = true) (hq : Q (curE c' :: L) (.val (resP r))) : VApp P (curE c :: L) (.fn f [] []) args Q :=
  qbw h (qbf _ _) (qbf _ _) ha (q1a _ _) fun _ => hq
theorem qdz : AV.agg [.int .i64 0, .int .i64 0, .int .i64 0, .str [], .sl 5 []] = enc N0 := by simp [N0, enc, encs]
/-- The tree, or nothing. -/
def qkj (n : N) (b : Bool) : Option N := if b = true then some n else none
theorem q7k (n : N) : qkj n false = none := rfl
theorem q1q {r : Option N} {b : Bool} (h : r.isSome = true) : qkj (r.getD N0) b = if b = true then r else none := by
  cases r with
  | none => cases h
  | some n => rfl
theorem q6h (c : K) (n : N) (b : Bool) : qb8 Try.prog 63 (curE c) (curE c) [.ptr 0 0, enc n, .bool b] (resP (qkj n b)) := by
  refine q7 c0x 1 (by simp) (by simp) ?_
  repeat' (first | refine ql ?_ | ((first | refine qn ?_ | refine qm ?_ | refine qj ?_ | refine qi ?_ | ((first | refine qf ?_ ?_ | refine qc ?_ ?_) <;> intro hc <;> (try simp only [hc]) <;> (try simp only [qb, qa, decide_eq_true_eq, decide_eq_false_iff_not, Bool.and_eq_true] at hc)) | refine And.intro (by first | assumption | omega | (have := qh (by assumption); omega) | (unfold qs; omega)) ?_ | simp (disch := omega) only [qd] | simp (disch := omega) only [qr]) <;> (try simp only [go_sem, ↓reduceIte, Nat.reduceEqDiff, Nat.reduceAdd, Nat.reduceSub, Nat.reduceMul, Nat.reduceLT, Nat.reduceLeDiff, reduceCtorEq, Int.reduceToNat])))
  all_goals (unfold qkj; simp_all [qdz])
theorem qsb {c : K} {L : List Ent} {n : N} {b : Bool} {Q : List Ent → VO → Prop} (hq : Q (curE c :: L) (.val (resP (qkj n b)))) : VApp Try.prog (curE c :: L) (.fn 63 [] []) [.ptr 0 0, enc n, .bool b] Q := qc3 (q6h c n b) (by simp only [AV.bds, AV.bd, ql4]; rfl) hq
theorem qu1 {c : K} {L : List Ent} {n m : N} {b : Bool} {Q : List Ent → VO → Prop} (hq : Q (curE c :: L) (.val (resP (qkj (qir n m) b)))) :
    VApp Try.prog (curE c :: L) (.fn 63 [] []) [.ptr 0 0, .agg [.int .i64 2, .int .i64 n.pos, .int .i64 0, .str [45, 62], .sl 5 [enc n, enc m]], .bool b] Q := by
  have h := qsb (n := qir n m) hq
  simpa only [qir, enc, encs] using h
theorem qqw {r : Option N} {g : N → N} : qkj (g (r.getD N0)) r.isSome = r.map g := by cases r <;> rfl
theorem qx8 {r : Option N} {n : N} : qkj (qir n (r.getD N0)) r.isSome = r.map (qir n) := qqw
theorem qdl {c : K} {x : List UInt8} (h : (qp c x).2 = false) : (qp c x).1 = c := by
  unfold qp at *
  split at h
  · cases h
  · rename_i h1; rw [if_neg h1]
theorem qxk (c : K) : qb8 Try.prog 71 (curE c) (curE c) [.ptr 0 0] (.bool (begT c)) := by
  refine q7 c0y 1 (by simp) (by simp) ?_
  repeat' (first | refine ql ?_ | ((first | refine qn ?_ | refine qm ?_ | refine qc5 ?_ | refine a_Is ?_ | ((first | refine qf ?_ ?_ | refine qc ?_ ?_) <;> intro hc <;> (try simp only [hc]) <;> (try simp only [qb, qa, decide_eq_true_eq, decide_eq_false_iff_not, Bool.and_eq_true] at hc)) | refine And.intro (by first | assumption | omega | (have := qh (by assumption); omega) | (unfold qs; omega)) ?_ | simp (disch := omega) only [qd] | simp (disch := omega) only [qr]) <;> (try simp only [go_sem, ↓reduceIte, Nat.reduceEqDiff, Nat.reduceAdd, Nat.reduceSub, Nat.reduceMul, Nat.reduceLT, Nat.reduceLeDiff, reduceCtorEq, Int.reduceToNat])))
  all_goals (unfold begT; simp_all)
theorem q7a {c : K} {L : List Ent} {Q : List Ent → VO → Prop} (hq : Q (curE c :: L) (.val (.bool (begT c)))) : VApp Try.prog (curE c :: L) (.fn 71 [] []) [.ptr 0 0] Q := qbw (qxk c) (qbf _ _) (qbf _ _) rfl rfl fun _ => hq
theorem qcn {l : List N} (h : l ≠ []) : encs l ≠ [] := by cases l with | nil => exact absurd rfl h | cons _ _ => simp [encs]
def qz0 (p : Int) (t : List UInt8) (c : K) (acc : List N) : AF × List Ent :=
  (⟨[(0, .ptr 0 0), (2, .ptr 1 0), (5, .ptr 2 0)], []⟩,
    curE c :: .blk [.int .i64 0, .int .i64 0, .int .i64 0, .str [], .nils] :: .blk [.int .i64 2, .int .i64 p, .int .i64 0, .str t, accV 3 (encs acc)] :: accE 5 (encs acc))
section
variable {rec : K → K × Option N} {b : Nat} (hm : ∀ c, Mon c (rec c).1) (ih : ∀ c, c.good → rest c < b → qb8 Try.prog 62 (curE c) (curE (rec c).1) [.ptr 0 0] (resP (rec c).2))
include hm ih
theorem qh2 (c : K) (hg : c.good) (hr : rest c ≤ b) : qb8 Try.prog 70 (curE c) (curE (qbl rec c).1) [.ptr 0 0] (resP (qbl rec c).2) := by
  have g1 : (qe c).1.good := (qv c).1 hg
  have g2 : (qt (qe c).1).good := (qbm _).1 g1
  have g3 : (rec (qt (qe c).1)).1.good := (hm _).1 g2
  have g4 : (qq (rec (qt (qe c).1)).1 [41]).1.good := (qo _ _).1 g3
  have hrr : isK c [40] = true → (qe c).2 = true → rest (qt (qe c).1) < b := fun h1 h2 => by
    have := qbg (c := (qe c).1) (by rw [qcp h2]; exact qcg h1)
    have := (qv c).2.1
    omega
  refine q7 c0z 1 (by simp) (by simp) ?_
  repeat' (first | refine ql ?_ | refine qk ?_ | ((first | refine qn ?_ | refine qm ?_ | refine qj ?_ | refine qi ?_ | refine qc5 ?_ | refine a_Is ?_ | refine qo9 ?_ | refine qgb ?_ | refine qhk hg.ok ?_ | refine qhk g1.ok ?_ | refine qc3 (ih _ g2 (hrr (by assumption) (by assumption))) rfl ?_ | refine qdc g3.ok ?_ | refine qeo g4.2.2 ?_ | refine qeo g3.2.2 ?_ | refine qsb ?_ | ((first | refine qf ?_ ?_ | refine qc ?_ ?_) <;> intro hc <;> (try simp only [hc]) <;> (try simp only [qb, qa, decide_eq_true_eq, decide_eq_false_iff_not, Bool.and_eq_true] at hc)) | refine And.intro (by first | assumption | omega | (have := qh (by assumption); omega) | (unfold qs; omega)) ?_ | simp (disch := omega) only [qd] | simp (disch := omega) only [qr]) <;> (try simp only [go_sem, ↓reduceIte, Nat.reduceEqDiff, Nat.reduceAdd, Nat.reduceSub, Nat.reduceMul, Nat.reduceLT, Nat.reduceLeDiff, reduceCtorEq, Int.reduceToNat])))
  all_goals (try simp only [q1q (r := (rec (qt (qe c).1)).2) (by assumption)])
  all_goals (try simp only [q7k])
  all_goals (unfold qbl qg7; simp only [*, qdz, Int.reduceEq, if_true, if_false, reduceIte, Bool.false_eq_true, Option.getD_none, Option.getD_some, Option.isSome_none, Option.isSome_some, and_self, true_and, and_true]; try rfl)
theorem qbga (c : K) (hg : c.good) (hr : rest c ≤ b) : qb8 Try.prog 69 (curE c) (curE (qbu rec c).1) [.ptr 0 0] (resP (qbu rec c).2) := by
  refine q7 c0ba 1 (by simp) (by simp) ?_
  by_cases hk : (qw c).kind = 2
  · have g1 : (qt c).good := (qbm _).1 hg
    have hpa : qbu rec c = ((qcy rec (rest c + 1) (qt c) []).1, (qcy rec (rest c + 1) (qt c) []).2.map (qg7 c 2)) := by rw [qbu, if_pos hk]
    rw [hpa]
    clear hpa
    generalize htg : qcy rec (rest c + 1) (qt c) [] = tg
    have hmt : Mon (qt c) tg.1 := htg ▸ qgx hm _ _ _
    have hrn := qbg (c := c) (by omega)
    repeat' (first | refine ql ?_ | refine qk ?_ | ((first | refine qn ?_ | refine qm ?_ | refine qz ?_ | refine qj ?_ | refine qi ?_) <;> (try simp (disch := first | omega | (simp only [List.length_set, List.length_append, List.length_cons, List.length_nil]; done) | (simp only [List.length_set, List.length_append, List.length_cons, List.length_nil]; omega)) only [hk, Int.reduceEq, go_sem, ↓reduceIte, Nat.reduceEqDiff, Nat.reduceAdd, Nat.reduceSub, Nat.reduceMul, Nat.reduceLT, Nat.reduceLeDiff, reduceCtorEq, Int.reduceToNat])) | ((first | ((first | refine qf ?_ ?_ | refine qc ?_ ?_) <;> intro hc <;> (try simp only [hc]) <;> (try simp only [qb, qa, decide_eq_true_eq, decide_eq_false_iff_not, Bool.and_eq_true] at hc)) | refine And.intro (by first | assumption | omega | (have := qh (by assumption); omega) | (unfold qs; omega)) ?_ | simp (disch := omega) only [qd] | simp (disch := omega) only [qr] | refine qc5 ?_ | refine qhk hg.ok ?_) <;> (try simp only [go_sem, ↓reduceIte, Nat.reduceEqDiff, Nat.reduceAdd, Nat.reduceSub, Nat.reduceMul, Nat.reduceLT, Nat.reduceLeDiff, reduceCtorEq, Int.reduceToNat])))
    refine qc7 (S := Nat × K × List N) (fun x => x.2.1.good ∧ rest x.2.1 ≤ b ∧ qcy rec x.1 x.2.1 x.2.2 = tg ∧ rest x.2.1 < x.1 ∧ x.2.2.length + rest x.2.1 ≤ 1048577)
      (fun x => qz0 (qw c).pos (qw c).text x.2.1 x.2.2) (fun x => rest x.2.1 + 1) ?_ ?_
    · refine qcq (rest c + 1, qt c, []) [0, 1, 3] ⟨g1, by simp only; omega, htg, by simp only; omega, ?_⟩ rfl (by simp) ?_ ?_ ?_
      · have h9 := g1.rest
        unfold rest
        simp only [List.length_nil]
        omega
      all_goals simp only [qz0, encs, qb7, qcb]
      all_goals simp only [go_sem, ↓reduceIte, Nat.reduceEqDiff, Nat.reduceAdd, Nat.reduceSub, Nat.reduceMul, Nat.reduceLT, Nat.reduceLeDiff, reduceCtorEq, Int.reduceToNat]
    · rintro ⟨fu, d, acc⟩ ⟨i1, i2, i3, i4, i5⟩
      simp only at i1 i2 i3 i4 i5
      unfold qz0
      obtain ⟨fu, rfl⟩ : ∃ k, fu = k + 1 := ⟨fu - 1, by omega⟩
      rw [qcy] at i3
      have hcap : qs (acc.length + 1) 64 := capN (by omega)
      have j1 : (qbl rec d).1.good := (qeh hm d).1 i1
      have j2 : rest (qbl rec d).1 ≤ rest d := (qeh hm d).2.1
      by_cases h0 : acc = []
      · subst h0
        simp only [encs, qb7, qcb]
        repeat' (first | refine ql ?_ | refine qk ?_ | ((first | refine qn ?_ | refine qm ?_ | refine qz ?_ | refine qj ?_ | refine qi ?_ | refine q7a ?_ | refine qc3 (qh2 hm ih _ i1 i2) rfl ?_ | ((first | refine qf ?_ ?_ | refine qc ?_ ?_) <;> intro hc <;> (try simp only [hc]) <;> (try simp only [qb, qa, decide_eq_true_eq, decide_eq_false_iff_not, Bool.and_eq_true] at hc)) | refine And.intro (by first | assumption | omega | (have := qh (by assumption); omega) | (unfold qs; omega)) ?_ | simp (disch := omega) only [qd] | simp (disch := omega) only [qr]) <;> (try simp only [go_sem, ↓reduceIte, Nat.reduceEqDiff, Nat.reduceAdd, Nat.reduceSub, Nat.reduceMul, Nat.reduceLT, Nat.reduceLeDiff, reduceCtorEq, Int.reduceToNat])))
        · have hb : begT d = true := by assumption
          have hs : (qbl rec d).2.isSome = false := by assumption
          rw [if_pos hb, if_neg (by rw [hs]; simp)] at i3
          subst i3
          exact ⟨rfl, by rw [qdz]; rfl⟩
        · have hb : begT d = true := by assumption
          have hs : (qbl rec d).2.isSome = true := by assumption
          rw [if_pos hb, if_pos hs] at i3
          have hlt := qeu hm hs
          refine qcq (fu, (qbl rec d).1, [] ++ [(qbl rec d).2.getD N0]) [0, 1, 2, 4] ⟨⟨j1, by simp only; omega, i3, by simp only; omega, ?_⟩, by simp only; omega⟩ rfl (by simp) ?_ ?_ ?_
          · simp only [List.length_append, List.length_cons, List.length_nil]; omega
          all_goals simp only [qz0, ← qbd, qew, qev, List.nil_append, encs, qf4, qf1]
          all_goals simp only [go_sem, ↓reduceIte, Nat.reduceEqDiff, Nat.reduceAdd, Nat.reduceSub, Nat.reduceMul, Nat.reduceLT, Nat.reduceLeDiff, reduceCtorEq, Int.reduceToNat]
        · have hb : begT d = false := by assumption
          rw [if_neg (by rw [hb]; simp)] at i3
          subst i3
          simp only [Option.map_some, Option.getD_some, Option.isSome_some, enc, encs, qg7, and_self]
      · have hne := qcn h0
        simp only [qch hne, qci hne, qca]
        repeat' (first | refine ql ?_ | refine qk ?_ | ((first | refine qn ?_ | refine qm ?_ | refine qz ?_ | refine qj ?_ | refine qi ?_ | refine q7a ?_ | refine qc3 (qh2 hm ih _ i1 i2) rfl ?_ | ((first | refine qf ?_ ?_ | refine qc ?_ ?_) <;> intro hc <;> (try simp only [hc]) <;> (try simp only [qb, qa, decide_eq_true_eq, decide_eq_false_iff_not, Bool.and_eq_true] at hc)) | refine And.intro (by first | assumption | omega | (have := qh (by assumption); omega) | (unfold qs; omega)) ?_ | simp (disch := omega) only [qd] | simp (disch := omega) only [qr]) <;> (try simp only [go_sem, ↓reduceIte, Nat.reduceEqDiff, Nat.reduceAdd, Nat.reduceSub, Nat.reduceMul, Nat.reduceLT, Nat.reduceLeDiff, reduceCtorEq, Int.reduceToNat])))
        · have hb : begT d = true := by assumption
          have hs : (qbl rec d).2.isSome = false := by assumption
          rw [if_pos hb, if_neg (by rw [hs]; simp)] at i3
          subst i3
          exact ⟨rfl, by rw [qdz]; rfl⟩
        · have hb : begT d = true := by assumption
          have hs : (qbl rec d).2.isSome = true := by assumption
          rw [if_pos hb, if_pos hs] at i3
          have hlt := qeu hm hs
          refine qcq (fu, (qbl rec d).1, acc ++ [(qbl rec d).2.getD N0]) [0, 1, 2, 5] ⟨⟨j1, by simp only; omega, i3, by simp only; omega, ?_⟩, by simp only; omega⟩ rfl (by simp) ?_ ?_ ?_
          · simp only [List.length_append, List.length_cons, List.length_nil]; omega
          all_goals simp only [qz0, ← qbd, qew, qev, List.nil_append, encs, qf4, qf1]
          all_goals simp only [go_sem, ↓reduceIte, Nat.reduceEqDiff, Nat.reduceAdd, Nat.reduceSub, Nat.reduceMul, Nat.reduceLT, Nat.reduceLeDiff, reduceCtorEq, Int.reduceToNat]
          rw [qbd, qcm, qdq]; exact ⟨rfl, rfl⟩
        · have hb : begT d = false := by assumption
          rw [if_neg (by rw [hb]; simp)] at i3
          subst i3
          simp only [Option.map_some, Option.getD_some, Option.isSome_some, enc, encs, qg7, and_self]
  · repeat' (first | refine ql ?_ | refine qk ?_ | ((first | refine qn ?_ | refine qm ?_ | refine qz ?_ | refine qj ?_ | refine qi ?_) <;> (try simp (disch := first | omega | (simp only [List.length_set, List.length_append, List.length_cons, List.length_nil]; done) | (simp only [List.length_set, List.length_append, List.length_cons, List.length_nil]; omega)) only [hk, go_sem, ↓reduceIte, Nat.reduceEqDiff, Nat.reduceAdd, Nat.reduceSub, Nat.reduceMul, Nat.reduceLT, Nat.reduceLeDiff, reduceCtorEq, Int.reduceToNat])) | ((first | ((first | refine qf ?_ ?_ | refine qc ?_ ?_) <;> intro hc <;> (try simp only [hc]) <;> (try simp only [qb, qa, decide_eq_true_eq, decide_eq_false_iff_not, Bool.and_eq_true] at hc)) | refine And.intro (by first | assumption | omega | (have := qh (by assumption); omega) | (unfold qs; omega)) ?_ | simp (disch := omega) only [qd] | simp (disch := omega) only [qr] | refine qc5 ?_ | refine qc3 (qh2 hm ih c hg hr) rfl ?_) <;> (try simp only [go_sem, ↓reduceIte, Nat.reduceEqDiff, Nat.reduceAdd, Nat.reduceSub, Nat.reduceMul, Nat.reduceLT, Nat.reduceLeDiff, reduceCtorEq, Int.reduceToNat])))
    rw [qbu, if_neg hk]; exact ⟨rfl, rfl⟩
end
theorem qud {f : Nat} (ih : ∀ c, c.good → rest c < f → qb8 Try.prog 62 (curE c) (curE (qbo f c).1) [.ptr 0 0] (resP (qbo f c).2)) (c : K) (hg : c.good) (hr : rest c < f + 1) :
    qb8 Try.prog 62 (curE c) (curE (qbo (f + 1) c).1) [.ptr 0 0] (resP (qbo (f + 1) c).2) := by
  have hm := qfm f
  have g1 : (qe c).1.good := (qv c).1 hg
  have hr1 : rest (qe c).1 ≤ f := by have := (qv c).2.1; omega
  have hrow := qbga hm ih _ g1 hr1
  have mrow := qo2 hm (qe c).1
  have lrow := qut hm (c := (qe c).1)
  have hpa : qbo (f + 1) c = if (qe c).2 = true then
      if (qbu (qbo f) (qe c).1).2.isSome = true then
        if (qp (qbu (qbo f) (qe c).1).1 [45, 62]).2 = true then
          (qbn (qbo f (qp (qbu (qbo f) (qe c).1).1 [45, 62]).1).1, (qbo f (qp (qbu (qbo f) (qe c).1).1 [45, 62]).1).2.map (qir ((qbu (qbo f) (qe c).1).2.getD N0)))
        else (qbn (qbu (qbo f) (qe c).1).1, (qbu (qbo f) (qe c).1).2)
      else (qbn (qbu (qbo f) (qe c).1).1, none)
    else ((qe c).1, none) := by rw [qbo]
  rw [hpa]
  clear hpa
  generalize qbu (qbo f) (qe c).1 = r at *
  have g2 : r.1.good := mrow.1 g1
  have g3 : (qp r.1 [45, 62]).1.good := (q6 _ _).1 g2
  have g4 : (qbo f (qp r.1 [45, 62]).1).1.good := (hm _).1 g3
  have hlt : r.2.isSome = true → rest (qp r.1 [45, 62]).1 < f := fun h => by
    have := lrow h
    have := (q6 r.1 [45, 62]).2.1
    omega
  refine q7 c0bb 1 (by simp) (by simp) ?_
  repeat' (first | refine ql ?_ | ((first | refine qn ?_ | refine qm ?_ | refine qj ?_ | refine qi ?_ | refine qgb ?_ | refine qc3 hrow rfl ?_ | refine qec g2.ok ?_ | refine qc3 (ih _ g3 (hlt (by assumption))) rfl ?_ | refine qeo g4.2.2 ?_ | refine qeo g3.2.2 ?_ | refine qeo g2.2.2 ?_ | refine qsb ?_ | refine qu1 ?_ | ((first | refine qf ?_ ?_ | refine qc ?_ ?_) <;> intro hc <;> (try simp only [hc]) <;> (try simp only [qb, qa, decide_eq_true_eq, decide_eq_false_iff_not, Bool.and_eq_true] at hc)) | refine And.intro (by first | assumption | omega | (have := qh (by assumption); omega) | (unfold qs; omega)) ?_ | simp (disch := omega) only [qd] | simp (disch := omega) only [qr]) <;> (try simp only [go_sem, ↓reduceIte, Nat.reduceEqDiff, Nat.reduceAdd, Nat.reduceSub, Nat.reduceMul, Nat.reduceLT, Nat.reduceLeDiff, reduceCtorEq, Int.reduceToNat])))
  all_goals (try simp only [qdl (c := r.1) (by assumption)])
  all_goals (try simp only [q1q (r := r.2) (by assumption)])
  all_goals (try simp only [q7k, qx8])
  all_goals (simp only [*, qdz, if_true, if_false, reduceIte, Bool.false_eq_true, Option.getD_none, Option.getD_some, Option.isSome_none, Option.isSome_some, and_self, true_and, and_true]; try rfl)
theorem q0c (f : Nat) : ∀ c : K, c.good → rest c < f → qb8 Try.prog 62 (curE c) (curE (qbo f c).1) [.ptr 0 0] (resP (qbo f c).2) := by
  induction f with
  | zero => exact fun c _ h => absurd h (by omega)
  | succ f ih => exact qud ih
end Go.Proofs.Ytmekebfgmjaenaa
