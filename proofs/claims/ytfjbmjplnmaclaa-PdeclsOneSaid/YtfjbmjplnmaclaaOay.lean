/- Texts of this proof, joined. -/
import Derived.Test.YtfjbmjplnmaclaaOav
import Derived.Test.YtfjbmjplnmaclaaOax

/- the cursor: in other places; texts; trees that are whole -/
namespace Go.Proofs.Ytfjbmjplnmaclaa
open Go Go.RowKit Go.V
set_option linter.unusedVariables false
set_option linter.unusedSimpArgs false

section
variable {P : Program} {f : FuncId} {e e' : Ent} {L : List Ent} {args0 args : List AV} {r : AV} {Q : List Ent → VO → Prop}
/-- The call's entry lies at place k. -/
theorem qzl (k : Nat) (h : qcc P f e e' args0 r) (hk : L[k]? = some e) (hb : e.bd 0 = true) (hb' : e'.bd 0 = true) (ha : AV.bds 1 args0 = true) (hr : r.bd 0 = true) (hs : AV.rens (sg [k]) args0 = args) (hq : r.wf → Q (L.set k e') (.val r)) :
    VApp P L (.fn f [] []) args Q :=
  qcb (first := []) (caps := []) (by
    simp only [List.nil_append, List.append_nil]
    rw [← hs]
    have hlt : k < L.length := (List.getElem?_eq_some_iff.1 hk).1
    refine qgh (H0 := [e]) [k] (h.mono' (Q' := fun H' o => (H' = [e'] ∧ o = .val r) ∧ r.wf) fun H' o hw ho => ⟨ho, by have := ho.2; subst this; exact hw⟩) (by simp) (by simpa using hlt) rfl ?_ ha ?_
    · intro j e2 hj
      obtain rfl : j = 0 := by have := (List.getElem?_eq_some_iff.1 hj).1; simp at this; omega
      simp only [List.getElem?_cons_zero, Option.some.injEq] at hj
      subst hj
      exact .inr ⟨Ent.bd_le (Nat.zero_le _) _ hb, by rw [Ent.ren_same (m := 0) (fun i hi => by omega) _ hb]; exact hk⟩
    · rintro H1 o ⟨⟨rfl, rfl⟩, hw⟩
      have h1 : e'.ren (sg' [k] L.length) = e' := Ent.ren_same (m := 0) (fun i hi => by omega) _ hb'
      have h2 : r.ren (sg' [k] L.length) = r := ren_same (m := 0) (fun i hi => by omega) _ hr
      simp only [List.length_cons, List.length_nil, List.take_succ_cons, List.take_zero, List.map_cons, List.map_nil, qb0, h1, VO.ren, h2, List.drop_succ_cons, List.drop_nil, List.append_nil]
      exact hq hw)
/-- A call that makes an entry. -/
theorem qbct (h : VCalls P f [] args fun H' o => H' = [e] ∧ o = .val (.ptr 0 0)) (hb : e.bd 0 = true) (ha : AV.bds 0 args = true) (hq : Q (L ++ [e]) (.val (.ptr L.length 0))) : VApp P L (.fn f [] []) args Q :=
  qcb (first := []) (caps := []) (by
    simp only [List.nil_append, List.append_nil]
    have hs : AV.rens (sg []) args = args := qcj (m := 0) (fun i hi => by omega) _ ha
    rw [← hs]
    refine qgh (H0 := []) [] h (by simp) (by simp) rfl (fun j e2 hj => by simp at hj) ha ?_
    rintro H1 o ⟨rfl, rfl⟩
    have h1 : e.ren (sg' [] L.length) = e := Ent.ren_same (m := 0) (fun i hi => by omega) _ hb
    simp only [List.length_nil, List.take_zero, List.map_nil, qb0, List.drop_zero, List.map_cons, h1, VO.ren, AV.ren, sg', Nat.not_lt_zero, if_false, Nat.sub_zero, Nat.add_zero]
    exact hq)
end
theorem qk7 (s : List UInt8) : (lexV s).1.length ≤ 1048577 ∧ (lexV s).1.length ≤ s.length + 1 := by
  by_cases h : 1048576 < (s.length : Int)
  · rw [qyo h]; simp
  · have hll : (lexG s (qcl s)).1.length ≤ s.length := by have := qtn (s := s) (s.length - qcl s) (qcl s); unfold lexG; omega
    by_cases he : (lexG s (qcl s)).2.2 = 0
    · rw [q4j h he]; simp only [List.length_append, List.length_cons, List.length_nil]; omega
    · rw [q0k h he]; simp
theorem q1r {n : N} (h : sz n ≤ 1000000) : (qfj (fun (k : Int) l _ => (if l > k then l else k, true)) n 1 0).1 = depR n := by
  show (qfj dpF n 1 0).1 = depR n
  rw [qbjg n 1 0 (by omega) (by omega), qbgy n (by omega)]
  have := qba9 n
  simp only; omega

/-! The cursor: it has gone on, if it has gone; a failure stays. -/
def K.good (c : K) : Prop := c.at' ≤ c.l.length ∧ c.l.length ≤ 1048577 ∧ c.nest ≤ 200
def rest (c : K) : Nat := c.l.length - c.at'
theorem K.good.ok {c : K} (h : c.good) : c.ok := ⟨h.1, Nat.le_trans h.2.1 (by unfold maxLen; omega)⟩
theorem K.good.rest {c : K} (h : c.good) : c.l.length - c.at' ≤ 1048577 := by have := h.2.1; omega
theorem capN {n : Nat} (h : n ≤ 1048580) : qp n 64 := by unfold qp; omega
/-- Where a failure may be: within the text; its number. -/
def Wi (B : Int) (c : K) : Prop := (∀ t ∈ c.l, 0 ≤ t.pos ∧ t.pos ≤ B) ∧ 0 ≤ c.ep ∧ c.ep ≤ B ∧ (c.err ≠ 0 → 0 ≤ c.pos ∧ c.pos ≤ B ∧ (c.err = 2 ∨ c.err = 5))
def Mon (c c' : K) : Prop := (c.good → c'.good) ∧ rest c' ≤ rest c ∧ (c.err ≠ 0 → c'.err = c.err) ∧ c'.l = c.l ∧ ∀ B, Wi B c → Wi B c'
theorem Mon.refl (c : K) : Mon c c := ⟨id, Nat.le_refl _, fun _ => rfl, rfl, fun _ h => h⟩
theorem Mon.trans {a b c : K} (h : Mon a b) (k : Mon b c) : Mon a c := ⟨fun g => k.1 (h.1 g), Nat.le_trans k.2.1 h.2.1, fun e => (k.2.2.1 (by rw [h.2.2.1 e]; exact e)).trans (h.2.2.1 e), k.2.2.2.1.trans h.2.2.2.1, fun B g => k.2.2.2.2 B (h.2.2.2.2 B g)⟩
def em (c : K) : Nat := if c.err = 0 then rest c + 1 else 0
theorem Mon.em {c c' : K} (h : Mon c c') : em c' ≤ em c := by
  unfold Go.Proofs.Ytfjbmjplnmaclaa.em
  have := h.2.1
  split
  · split
    · omega
    · rename_i h1 h2; exact absurd h1 (by rw [h.2.2.1 h2]; exact h2)
  · omega
theorem qwm (c : K) : em c ≤ rest c + 1 := by unfold em; split <;> omega
theorem qbxh {c : K} (h : c.err ≠ 0) : em c = 0 := if_neg h
theorem qbfo {c : K} (h : c.err = 0) : em c = rest c + 1 := if_pos h
theorem qfn (c : K) {e : Int} : (qd3 c e).err ≠ 0 := by
  unfold qd3
  split
  · simp only; split
    · simp
    · assumption
  · assumption
theorem qb1 (c : K) : Mon c (q7 c) := by
  unfold q7
  split
  · split
    · exact ⟨fun h => ⟨by simp only; omega, h.2⟩, by unfold rest; simp only; omega, fun _ => rfl, rfl, fun _ h => h⟩
    · exact Mon.refl c
  · exact Mon.refl c
theorem qbpx {B : Int} {c : K} (h : Wi B c) (he : c.err = 0) : 0 ≤ (qw c).pos ∧ (qw c).pos ≤ B := by
  by_cases hl : c.at' < c.l.length
  · rw [qn4 he (by omega)]
    refine h.1 _ ?_
    rw [List.getD_eq_getElem?_getD, List.getElem?_eq_getElem hl]
    exact List.getElem_mem hl
  · rw [qoe he (by omega)]
    exact ⟨h.2.1, h.2.2.1⟩
theorem qd9 (c : K) (e : Int) (he : e = 2 ∨ e = 5 := by decide) : Mon c (qd3 c e) := by
  refine ⟨?_, ?_, fun h => by rw [qe7 h], ?_, ?_⟩
  · unfold qd3; split <;> exact id
  · unfold qd3; split <;> exact Nat.le_refl _
  · unfold qd3; split <;> rfl
  · intro B h
    unfold qd3
    split
    · rename_i h0
      have h1 := qbpx h h0
      refine ⟨h.1, h.2.1, h.2.2.1, fun _ => ⟨h1.1, h1.2, ?_⟩⟩
      simp only
      rw [if_neg (by omega)]; exact he
    · exact h
theorem q8 (c : K) : Mon c (qi c).1 := by
  unfold qi
  split
  · split
    · rename_i h1; exact ⟨fun h => ⟨h.1, h.2.1, by simp only; omega⟩, Nat.le_refl _, fun _ => rfl, rfl, fun _ h => h⟩
    · exact qd9 c 2
  · exact Mon.refl c
theorem qbh (c : K) : Mon c (qci c) := by
  unfold qci
  split
  · split
    · exact ⟨fun h => ⟨h.1, h.2.1, by have := h.2.2; simp only; omega⟩, Nat.le_refl _, fun _ => rfl, rfl, fun _ h => h⟩
    · exact Mon.refl c
  · exact Mon.refl c
theorem qz (c : K) (x : List UInt8) : Mon c (qs c x).1 := by
  unfold qs
  split
  · exact qb1 c
  · exact Mon.refl c
theorem qr (c : K) (x : List UInt8) : Mon c (qq c x).1 := by
  unfold qq
  split
  · exact qb1 c
  · exact qd9 c 5
theorem qfd {c : K} (h : (qw c).kind ≠ 0) : c.err = 0 ∧ c.at' < c.l.length := by
  unfold qw at h
  split at h
  · rename_i h1
    split at h
    · rename_i h2; exact ⟨h1, h2⟩
    · exact absurd rfl h
  · exact absurd rfl h
theorem qbj {c : K} (h : (qw c).kind ≠ 0) : rest (q7 c) + 1 = rest c := by
  obtain ⟨h1, h2⟩ := qfd h
  rw [qtd h1 (by omega)]
  unfold rest; simp only; omega
theorem qcv {c : K} {x : List UInt8} (h : isK c x = true) : (qw c).kind ≠ 0 := by
  simp only [isK, qf0, Bool.and_eq_true, Bool.or_eq_true, decide_eq_true_eq] at h
  omega
theorem qw6 {c : K} {x : List UInt8} (h : isK c x = true) : c.err = 0 := by
  simp only [isK, Bool.and_eq_true, decide_eq_true_eq] at h
  exact h.1
theorem qhm {c : K} (h : (qi c).2 = true) : c.err = 0 ∧ (qi c).1.err = 0 ∧ (qi c).1 = { c with nest := c.nest + 1 } := by
  unfold qi at h ⊢
  split at h
  · rename_i h1
    split at h
    · rename_i h2; rw [if_pos h1, if_pos h2]; exact ⟨h1, h1, rfl⟩
    · cases h
  · cases h
theorem qc1 {c : K} (h : (qi c).2 = true) : qw (qi c).1 = qw c := by rw [(qhm h).2.2]; rfl
theorem qn1 {c : K} {x : List UInt8} (h : (qi c).2 = true) : isK (qi c).1 x = isK c x := by rw [(qhm h).2.2]; rfl
theorem qfq {c : K} (h : (qi c).2 = false) : (qi c).1.err ≠ 0 := by
  unfold qi at h ⊢
  split at h
  · rename_i h1
    split at h
    · cases h
    · rename_i h2; rw [if_pos h1, if_neg h2]; exact qfn c
  · rename_i h1; rw [if_neg h1]; exact h1
theorem qdd {c : K} {x : List UInt8} (h : (qq c x).2 = false) : (qq c x).1.err ≠ 0 := by
  unfold qq at h ⊢
  split at h
  · cases h
  · rename_i h1; rw [if_neg h1]; exact qfn c
theorem qck {c : K} (h : c.err ≠ 0) : qci c = c := if_neg h
theorem qsk {c : K} {x : List UInt8} (h : c.err ≠ 0) : isK c x = false := by
  simp only [isK, decide_eq_false h, Bool.false_and]
theorem qbv {c : K} {x : List UInt8} (h : c.err ≠ 0) : qq c x = (c, false) := by
  rw [qq, if_neg (by rw [qsk h]; simp), qe7 h]
theorem qek {c : K} {x : List UInt8} (h : c.err ≠ 0) : qs c x = (c, false) := qf1 (qsk h)
theorem qjy {c : K} {x : List UInt8} (h : isK c x = true) : qq c x = (q7 c, true) := if_pos h

/-! Types: the program. -/
def begT (c : K) : Bool := decide ((qw c).kind = 1) || decide ((qw c).kind = 2) || isK c [40]
def qho (c : K) (k : Int) (ks : List N) : N := .mk k (qw c).pos 0 (qw c).text ks
def qbo (rec : K → K × Option N) (c : K) : K × Option N :=
  if (qw c).kind = 1 then (q7 c, some (qho c 1 []))
  else if (qw c).kind = 2 then (q7 c, some (qho c 2 []))
  else if isK c [40] = true then
    if (qi c).2 = true then
      if (rec (q7 (qi c).1)).2.isSome = true then
        (qci (qq (rec (q7 (qi c).1)).1 [41]).1, if (qq (rec (q7 (qi c).1)).1 [41]).2 = true then (rec (q7 (qi c).1)).2 else none)
      else (qci (rec (q7 (qi c).1)).1, none)
    else ((qi c).1, none)
  else (qd3 c 5, none)
def qdk (rec : K → K × Option N) : Nat → K → List N → K × Option (List N)
  | 0, c, acc => (c, none)
  | f + 1, c, acc =>
    if begT c = true then
      if (qbo rec c).2.isSome = true then qdk rec f (qbo rec c).1 (acc ++ [(qbo rec c).2.getD N0])
      else ((qbo rec c).1, none)
    else (c, some acc)
def qb6 (rec : K → K × Option N) (c : K) : K × Option N :=
  if (qw c).kind = 2 then ((qdk rec (rest c + 1) (q7 c) []).1, (qdk rec (rest c + 1) (q7 c) []).2.map (qho c 2))
  else qbo rec c
def qkc (n m : N) : N := .mk 2 n.pos 0 [45, 62] [n, m]
def qbu : Nat → K → K × Option N
  | 0, c => (c, none)
  | f + 1, c =>
    if (qi c).2 = true then
      if (qb6 (qbu f) (qi c).1).2.isSome = true then
        if (qs (qb6 (qbu f) (qi c).1).1 [45, 62]).2 = true then
          (qci (qbu f (qs (qb6 (qbu f) (qi c).1).1 [45, 62]).1).1, (qbu f (qs (qb6 (qbu f) (qi c).1).1 [45, 62]).1).2.map (qkc ((qb6 (qbu f) (qi c).1).2.getD N0)))
        else (qci (qb6 (qbu f) (qi c).1).1, (qb6 (qbu f) (qi c).1).2)
      else (qci (qb6 (qbu f) (qi c).1).1, none)
    else ((qi c).1, none)
section
variable {rec : K → K × Option N} (hm : ∀ c, Mon c (rec c).1)
include hm
theorem qea (c : K) : Mon c (qbo rec c).1 := by
  unfold qbo
  split
  · exact qb1 c
  · split
    · exact qb1 c
    · split
      · split
        · have h1 := ((q8 c).trans (qb1 _)).trans (hm _)
          split
          · exact (h1.trans (qr _ _)).trans (qbh _)
          · exact h1.trans (qbh _)
        · exact q8 c
      · exact qd9 c 5
theorem qdv {c : K} (h : (qbo rec c).2.isSome = true) : rest (qbo rec c).1 < rest c := by
  unfold qbo at h ⊢
  split at h
  · rename_i h1; rw [if_pos h1]; have := qbj (c := c) (by omega); simp only; omega
  · rename_i h1
    rw [if_neg h1]
    split at h
    · rename_i h2; rw [if_pos h2]; have := qbj (c := c) (by omega); simp only; omega
    · rename_i h2
      rw [if_neg h2]
      split at h
      · rename_i hk
        rw [if_pos hk]
        split at h
        · rename_i he
          rw [if_pos he]
          have hp := qbj (c := (qi c).1) (by rw [qc1 he]; exact qcv hk)
          have h0 := (q8 c).2.1
          have h1 := (hm (q7 (qi c).1)).2.1
          split at h
          · rename_i hr
            rw [if_pos hr]
            have h2 := (qr (rec (q7 (qi c).1)).1 [41]).2.1
            have h3 := (qbh (qq (rec (q7 (qi c).1)).1 [41]).1).2.1
            simp only; omega
          · cases h
        · cases h
      · cases h
theorem qie : ∀ (f : Nat) (c : K) (acc : List N), Mon c (qdk rec f c acc).1
  | 0, c, acc => Mon.refl c
  | f + 1, c, acc => by
    rw [qdk]
    split
    · split
      · exact (qea hm c).trans (qie f _ _)
      · exact qea hm c
    · exact Mon.refl c
theorem qr4 (c : K) : Mon c (qb6 rec c).1 := by
  unfold qb6
  split
  · exact (qb1 c).trans (qie hm _ _ _)
  · exact qea hm c
theorem qw5 {c : K} (h : (qb6 rec c).2.isSome = true) : rest (qb6 rec c).1 < rest c := by
  unfold qb6 at h ⊢
  split at h
  · rename_i h1
    rw [if_pos h1]
    have := qbj (c := c) (by omega)
    have := (qie hm (rest c + 1) (q7 c) []).2.1
    simp only; omega
  · rename_i h1
    rw [if_neg h1]
    exact qdv hm h
end
theorem qcn : ∀ (f : Nat) (c : K), Mon c (qbu f c).1
  | 0, c => Mon.refl c
  | f + 1, c => by
    have hr := (q8 c).trans (qr4 (qcn f) (qi c).1)
    rw [qbu]
    split
    · split
      · split
        · exact ((hr.trans (qz _ _)).trans (qcn f _)).trans (qbh _)
        · exact hr.trans (qbh _)
      · exact hr.trans (qbh _)
    · exact q8 c
theorem q5c {c : K} (h : begT c = true) : c.err = 0 := by
  simp only [begT, Bool.or_eq_true, decide_eq_true_eq] at h
  rcases h with (h | h) | h
  · exact (qfd (by omega)).1
  · exact (qfd (by omega)).1
  · exact qw6 h
theorem q3h {c : K} (h : c.err ≠ 0) : begT c = false := by
  cases hb : begT c with
  | false => rfl
  | true => exact absurd (q5c hb) h
set_option maxRecDepth 4000

def resP (r : Option N) : AV := .tup [enc (r.getD N0), .bool r.isSome]
attribute [go_sem] resP
theorem qbk6 (k : Nat) (r : Option N) : (resP r).bd k = true := by simp only [resP, AV.bd, AV.bds, qmx, Bool.and_true]
theorem qcp {P : Program} {f : FuncId} {c c' : K} {L : List Ent} {args : List AV} {r : Option N} {Q : List Ent → VO → Prop} (h : qcc P f (curE c) (curE c') args (resP r)) (ha : AV.bds 1 args = true) (hq : Q (curE c' :: L) (.val (resP r))) : VApp P (curE c :: L) (.fn f [] []) args Q :=
  qb9 h (qbe _ _) (qbe _ _) ha (qbk6 _ _) fun _ => hq
theorem qd2 : AV.agg [.int .i64 0, .int .i64 0, .int .i64 0, .str [], .sl 5 []] = enc N0 := by simp [N0, enc, encs]
/-- The tree, or nothing. -/
def qmj (n : N) (b : Bool) : Option N := if b = true then some n else none
theorem qbdj (n : N) : qmj n false = none := rfl
theorem q3r {r : Option N} {b : Bool} (h : r.isSome = true) : qmj (r.getD N0) b = if b = true then r else none := by
  cases r with
  | none => cases h
  | some n => rfl
theorem q9h (c : K) (n : N) (b : Bool) : qcc Try.prog 56 (curE c) (curE c) [.ptr 0 0, enc n, .bool b] (resP (qmj n b)) := by
  refine qx c0w 1 (by simp) (by simp) ?_
  repeat' (first | refine qj ?_ | ((first | refine qn ?_ | refine qk ?_ | refine qh ?_ | refine qg ?_ | ((first | refine qe ?_ ?_ | refine qd ?_ ?_) <;> intro hc <;> (try simp only [hc]) <;> (try simp only [qb, qa, decide_eq_true_eq, decide_eq_false_iff_not, Bool.and_eq_true] at hc)) | refine And.intro (by first | assumption | omega | (have := qf (by assumption); omega) | (unfold qp; omega)) ?_ | simp (disch := omega) only [qc] | simp (disch := omega) only [qo]) <;> (try simp only [go_sem, ↓reduceIte, Nat.reduceEqDiff, Nat.reduceAdd, Nat.reduceSub, Nat.reduceMul, Nat.reduceLT, Nat.reduceLeDiff, reduceCtorEq, Int.reduceToNat])))
  all_goals (unfold qmj; simp_all [qd2])
theorem qt6 {c : K} {L : List Ent} {n : N} {b : Bool} {Q : List Ent → VO → Prop} (hq : Q (curE c :: L) (.val (resP (qmj n b)))) : VApp Try.prog (curE c :: L) (.fn 56 [] []) [.ptr 0 0, enc n, .bool b] Q := qcp (q9h c n b) (by simp only [AV.bds, AV.bd, qmx]; rfl) hq
theorem qxp {c : K} {L : List Ent} {n m : N} {b : Bool} {Q : List Ent → VO → Prop} (hq : Q (curE c :: L) (.val (resP (qmj (qkc n m) b)))) :
    VApp Try.prog (curE c :: L) (.fn 56 [] []) [.ptr 0 0, .agg [.int .i64 2, .int .i64 n.pos, .int .i64 0, .str [45, 62], .sl 5 [enc n, enc m]], .bool b] Q := by
  have h := qt6 (n := qkc n m) hq
  simpa only [qkc, enc, encs] using h
theorem qtv {r : Option N} {g : N → N} : qmj (g (r.getD N0)) r.isSome = r.map g := by cases r <;> rfl
theorem q2d {r : Option N} {n : N} : qmj (qkc n (r.getD N0)) r.isSome = r.map (qkc n) := qtv
theorem qc8 {c : K} {x : List UInt8} (h : (qs c x).2 = false) : (qs c x).1 = c := by
  unfold qs at *
  split at h
  · cases h
  · rename_i h1; rw [if_neg h1]
theorem q1n (c : K) : qcc Try.prog 81 (curE c) (curE c) [.ptr 0 0] (.bool (begT c)) := by
  refine qx c0x 1 (by simp) (by simp) ?_
  repeat' (first | refine qj ?_ | ((first | refine qn ?_ | refine qk ?_ | refine qb4 ?_ | refine a_Is ?_ | ((first | refine qe ?_ ?_ | refine qd ?_ ?_) <;> intro hc <;> (try simp only [hc]) <;> (try simp only [qb, qa, decide_eq_true_eq, decide_eq_false_iff_not, Bool.and_eq_true] at hc)) | refine And.intro (by first | assumption | omega | (have := qf (by assumption); omega) | (unfold qp; omega)) ?_ | simp (disch := omega) only [qc] | simp (disch := omega) only [qo]) <;> (try simp only [go_sem, ↓reduceIte, Nat.reduceEqDiff, Nat.reduceAdd, Nat.reduceSub, Nat.reduceMul, Nat.reduceLT, Nat.reduceLeDiff, reduceCtorEq, Int.reduceToNat])))
  all_goals (unfold begT; simp_all)
theorem qbdb {c : K} {L : List Ent} {Q : List Ent → VO → Prop} (hq : Q (curE c :: L) (.val (.bool (begT c)))) : VApp Try.prog (curE c :: L) (.fn 81 [] []) [.ptr 0 0] Q := qb9 (q1n c) (qbe _ _) (qbe _ _) rfl rfl fun _ => hq
theorem qbl {l : List N} (h : l ≠ []) : encs l ≠ [] := by cases l with | nil => exact absurd rfl h | cons _ _ => simp [encs]
def q7q (p : Int) (t : List UInt8) (c : K) (acc : List N) : AF × List Ent :=
  (⟨[(0, .ptr 0 0), (2, .ptr 1 0), (5, .ptr 2 0)], []⟩,
    curE c :: .blk [.int .i64 0, .int .i64 0, .int .i64 0, .str [], .nils] :: .blk [.int .i64 2, .int .i64 p, .int .i64 0, .str t, accV 3 (encs acc)] :: accE 5 (encs acc))
section
variable {rec : K → K × Option N} {b : Nat} (hm : ∀ c, Mon c (rec c).1) (ih : ∀ c, c.good → rest c < b → qcc Try.prog 54 (curE c) (curE (rec c).1) [.ptr 0 0] (resP (rec c).2))
include hm ih
theorem qhn (c : K) (hg : c.good) (hr : rest c ≤ b) : qcc Try.prog 37 (curE c) (curE (qbo rec c).1) [.ptr 0 0] (resP (qbo rec c).2) := by
  have g1 : (qi c).1.good := (q8 c).1 hg
  have g2 : (q7 (qi c).1).good := (qb1 _).1 g1
  have g3 : (rec (q7 (qi c).1)).1.good := (hm _).1 g2
  have g4 : (qq (rec (q7 (qi c).1)).1 [41]).1.good := (qr _ _).1 g3
  have hrr : isK c [40] = true → (qi c).2 = true → rest (q7 (qi c).1) < b := fun h1 h2 => by
    have := qbj (c := (qi c).1) (by rw [qc1 h2]; exact qcv h1)
    have := (q8 c).2.1
    omega
  refine qx c0y 1 (by simp) (by simp) ?_
  repeat' (first | refine qj ?_ | refine ql ?_ | ((first | refine qn ?_ | refine qk ?_ | refine qh ?_ | refine qg ?_ | refine qb4 ?_ | refine a_Is ?_ | refine qse ?_ | refine qhh ?_ | refine qjb hg.ok ?_ | refine qjb g1.ok ?_ | refine qcp (ih _ g2 (hrr (by assumption) (by assumption))) rfl ?_ | refine qce g3.ok ?_ | refine qfi g4.2.2 ?_ | refine qfi g3.2.2 ?_ | refine qt6 ?_ | ((first | refine qe ?_ ?_ | refine qd ?_ ?_) <;> intro hc <;> (try simp only [hc]) <;> (try simp only [qb, qa, decide_eq_true_eq, decide_eq_false_iff_not, Bool.and_eq_true] at hc)) | refine And.intro (by first | assumption | omega | (have := qf (by assumption); omega) | (unfold qp; omega)) ?_ | simp (disch := omega) only [qc] | simp (disch := omega) only [qo]) <;> (try simp only [go_sem, ↓reduceIte, Nat.reduceEqDiff, Nat.reduceAdd, Nat.reduceSub, Nat.reduceMul, Nat.reduceLT, Nat.reduceLeDiff, reduceCtorEq, Int.reduceToNat])))
  all_goals (try simp only [q3r (r := (rec (q7 (qi c).1)).2) (by assumption)])
  all_goals (try simp only [qbdj])
  all_goals (unfold qbo qho; simp only [*, qd2, Int.reduceEq, if_true, if_false, reduceIte, Bool.false_eq_true, Option.getD_none, Option.getD_some, Option.isSome_none, Option.isSome_some, and_self, true_and, and_true]; try rfl)
theorem qbm3 (c : K) (hg : c.good) (hr : rest c ≤ b) : qcc Try.prog 76 (curE c) (curE (qb6 rec c).1) [.ptr 0 0] (resP (qb6 rec c).2) := by
  refine qx c0z 1 (by simp) (by simp) ?_
  by_cases hk : (qw c).kind = 2
  · have g1 : (q7 c).good := (qb1 _).1 hg
    have hpa : qb6 rec c = ((qdk rec (rest c + 1) (q7 c) []).1, (qdk rec (rest c + 1) (q7 c) []).2.map (qho c 2)) := by rw [qb6, if_pos hk]
    rw [hpa]
    clear hpa
    generalize htg : qdk rec (rest c + 1) (q7 c) [] = tg
    have hmt : Mon (q7 c) tg.1 := htg ▸ qie hm _ _ _
    have hrn := qbj (c := c) (by omega)
    repeat' (first | refine qj ?_ | refine ql ?_ | ((first | refine qn ?_ | refine qk ?_ | refine qu ?_ | refine qh ?_ | refine qg ?_) <;> (try simp (disch := first | omega | (simp only [List.length_set, List.length_append, List.length_cons, List.length_nil]; done) | (simp only [List.length_set, List.length_append, List.length_cons, List.length_nil]; omega)) only [hk, Int.reduceEq, go_sem, ↓reduceIte, Nat.reduceEqDiff, Nat.reduceAdd, Nat.reduceSub, Nat.reduceMul, Nat.reduceLT, Nat.reduceLeDiff, reduceCtorEq, Int.reduceToNat])) | ((first | ((first | refine qe ?_ ?_ | refine qd ?_ ?_) <;> intro hc <;> (try simp only [hc]) <;> (try simp only [qb, qa, decide_eq_true_eq, decide_eq_false_iff_not, Bool.and_eq_true] at hc)) | refine And.intro (by first | assumption | omega | (have := qf (by assumption); omega) | (unfold qp; omega)) ?_ | simp (disch := omega) only [qc] | simp (disch := omega) only [qo] | refine qb4 ?_ | refine qjb hg.ok ?_) <;> (try simp only [go_sem, ↓reduceIte, Nat.reduceEqDiff, Nat.reduceAdd, Nat.reduceSub, Nat.reduceMul, Nat.reduceLT, Nat.reduceLeDiff, reduceCtorEq, Int.reduceToNat])))
    refine qcy (S := Nat × K × List N) (fun x => x.2.1.good ∧ rest x.2.1 ≤ b ∧ qdk rec x.1 x.2.1 x.2.2 = tg ∧ rest x.2.1 < x.1 ∧ x.2.2.length + rest x.2.1 ≤ 1048577)
      (fun x => q7q (qw c).pos (qw c).text x.2.1 x.2.2) (fun x => rest x.2.1 + 1) ?_ ?_
    · refine qcd (rest c + 1, q7 c, []) [0, 1, 3] ⟨g1, by simp only; omega, htg, by simp only; omega, ?_⟩ rfl (by simp) ?_ ?_ ?_
      · have h9 := g1.rest
        unfold rest
        simp only [List.length_nil]
        omega
      all_goals simp only [q7q, encs, qbq, qbt]
      all_goals simp only [go_sem, ↓reduceIte, Nat.reduceEqDiff, Nat.reduceAdd, Nat.reduceSub, Nat.reduceMul, Nat.reduceLT, Nat.reduceLeDiff, reduceCtorEq, Int.reduceToNat]
    · rintro ⟨fu, d, acc⟩ ⟨i1, i2, i3, i4, i5⟩
      simp only at i1 i2 i3 i4 i5
      unfold q7q
      obtain ⟨fu, rfl⟩ : ∃ k, fu = k + 1 := ⟨fu - 1, by omega⟩
      rw [qdk] at i3
      have hcap : qp (acc.length + 1) 64 := capN (by omega)
      have j1 : (qbo rec d).1.good := (qea hm d).1 i1
      have j2 : rest (qbo rec d).1 ≤ rest d := (qea hm d).2.1
      by_cases h0 : acc = []
      · subst h0
        simp only [encs, qbq, qbt]
        repeat' (first | refine qj ?_ | refine ql ?_ | ((first | refine qn ?_ | refine qk ?_ | refine qu ?_ | refine qh ?_ | refine qg ?_ | refine qbdb ?_ | refine qcp (qhn hm ih _ i1 i2) rfl ?_ | ((first | refine qe ?_ ?_ | refine qd ?_ ?_) <;> intro hc <;> (try simp only [hc]) <;> (try simp only [qb, qa, decide_eq_true_eq, decide_eq_false_iff_not, Bool.and_eq_true] at hc)) | refine And.intro (by first | assumption | omega | (have := qf (by assumption); omega) | (unfold qp; omega)) ?_ | simp (disch := omega) only [qc] | simp (disch := omega) only [qo]) <;> (try simp only [go_sem, ↓reduceIte, Nat.reduceEqDiff, Nat.reduceAdd, Nat.reduceSub, Nat.reduceMul, Nat.reduceLT, Nat.reduceLeDiff, reduceCtorEq, Int.reduceToNat])))
        · have hb : begT d = true := by assumption
          have hs : (qbo rec d).2.isSome = false := by assumption
          rw [if_pos hb, if_neg (by rw [hs]; simp)] at i3
          subst i3
          exact ⟨rfl, by rw [qd2]; rfl⟩
        · have hb : begT d = true := by assumption
          have hs : (qbo rec d).2.isSome = true := by assumption
          rw [if_pos hb, if_pos hs] at i3
          have hlt := qdv hm hs
          refine qcd (fu, (qbo rec d).1, [] ++ [(qbo rec d).2.getD N0]) [0, 1, 2, 4] ⟨⟨j1, by simp only; omega, i3, by simp only; omega, ?_⟩, by simp only; omega⟩ rfl (by simp) ?_ ?_ ?_
          · simp only [List.length_append, List.length_cons, List.length_nil]; omega
          all_goals simp only [q7q, ← qt, qfs, qft, List.nil_append, encs, qg1, qgw]
          all_goals simp only [go_sem, ↓reduceIte, Nat.reduceEqDiff, Nat.reduceAdd, Nat.reduceSub, Nat.reduceMul, Nat.reduceLT, Nat.reduceLeDiff, reduceCtorEq, Int.reduceToNat]
        · have hb : begT d = false := by assumption
          rw [if_neg (by rw [hb]; simp)] at i3
          subst i3
          simp only [Option.map_some, Option.getD_some, Option.isSome_some, enc, encs, qho, and_self]
      · have hne := qbl h0
        simp only [qby hne, qbz hne, qbm]
        repeat' (first | refine qj ?_ | refine ql ?_ | ((first | refine qn ?_ | refine qk ?_ | refine qu ?_ | refine qh ?_ | refine qg ?_ | refine qbdb ?_ | refine qcp (qhn hm ih _ i1 i2) rfl ?_ | ((first | refine qe ?_ ?_ | refine qd ?_ ?_) <;> intro hc <;> (try simp only [hc]) <;> (try simp only [qb, qa, decide_eq_true_eq, decide_eq_false_iff_not, Bool.and_eq_true] at hc)) | refine And.intro (by first | assumption | omega | (have := qf (by assumption); omega) | (unfold qp; omega)) ?_ | simp (disch := omega) only [qc] | simp (disch := omega) only [qo]) <;> (try simp only [go_sem, ↓reduceIte, Nat.reduceEqDiff, Nat.reduceAdd, Nat.reduceSub, Nat.reduceMul, Nat.reduceLT, Nat.reduceLeDiff, reduceCtorEq, Int.reduceToNat])))
        · have hb : begT d = true := by assumption
          have hs : (qbo rec d).2.isSome = false := by assumption
          rw [if_pos hb, if_neg (by rw [hs]; simp)] at i3
          subst i3
          exact ⟨rfl, by rw [qd2]; rfl⟩
        · have hb : begT d = true := by assumption
          have hs : (qbo rec d).2.isSome = true := by assumption
          rw [if_pos hb, if_pos hs] at i3
          have hlt := qdv hm hs
          refine qcd (fu, (qbo rec d).1, acc ++ [(qbo rec d).2.getD N0]) [0, 1, 2, 5] ⟨⟨j1, by simp only; omega, i3, by simp only; omega, ?_⟩, by simp only; omega⟩ rfl (by simp) ?_ ?_ ?_
          · simp only [List.length_append, List.length_cons, List.length_nil]; omega
          all_goals simp only [q7q, ← qt, qfs, qft, List.nil_append, encs, qg1, qgw]
          all_goals simp only [go_sem, ↓reduceIte, Nat.reduceEqDiff, Nat.reduceAdd, Nat.reduceSub, Nat.reduceMul, Nat.reduceLT, Nat.reduceLeDiff, reduceCtorEq, Int.reduceToNat]
          rw [qt, qbc, qbw]; exact ⟨rfl, rfl⟩
        · have hb : begT d = false := by assumption
          rw [if_neg (by rw [hb]; simp)] at i3
          subst i3
          simp only [Option.map_some, Option.getD_some, Option.isSome_some, enc, encs, qho, and_self]
  · repeat' (first | refine qj ?_ | refine ql ?_ | ((first | refine qn ?_ | refine qk ?_ | refine qu ?_ | refine qh ?_ | refine qg ?_) <;> (try simp (disch := first | omega | (simp only [List.length_set, List.length_append, List.length_cons, List.length_nil]; done) | (simp only [List.length_set, List.length_append, List.length_cons, List.length_nil]; omega)) only [hk, go_sem, ↓reduceIte, Nat.reduceEqDiff, Nat.reduceAdd, Nat.reduceSub, Nat.reduceMul, Nat.reduceLT, Nat.reduceLeDiff, reduceCtorEq, Int.reduceToNat])) | ((first | ((first | refine qe ?_ ?_ | refine qd ?_ ?_) <;> intro hc <;> (try simp only [hc]) <;> (try simp only [qb, qa, decide_eq_true_eq, decide_eq_false_iff_not, Bool.and_eq_true] at hc)) | refine And.intro (by first | assumption | omega | (have := qf (by assumption); omega) | (unfold qp; omega)) ?_ | simp (disch := omega) only [qc] | simp (disch := omega) only [qo] | refine qb4 ?_ | refine qcp (qhn hm ih c hg hr) rfl ?_) <;> (try simp only [go_sem, ↓reduceIte, Nat.reduceEqDiff, Nat.reduceAdd, Nat.reduceSub, Nat.reduceMul, Nat.reduceLT, Nat.reduceLeDiff, reduceCtorEq, Int.reduceToNat])))
    rw [qb6, if_neg hk]; exact ⟨rfl, rfl⟩
end
theorem qyc {f : Nat} (ih : ∀ c, c.good → rest c < f → qcc Try.prog 54 (curE c) (curE (qbu f c).1) [.ptr 0 0] (resP (qbu f c).2)) (c : K) (hg : c.good) (hr : rest c < f + 1) :
    qcc Try.prog 54 (curE c) (curE (qbu (f + 1) c).1) [.ptr 0 0] (resP (qbu (f + 1) c).2) := by
  have hm := qcn f
  have g1 : (qi c).1.good := (q8 c).1 hg
  have hr1 : rest (qi c).1 ≤ f := by have := (q8 c).2.1; omega
  have hrow := qbm3 hm ih _ g1 hr1
  have mrow := qr4 hm (qi c).1
  have lrow := qw5 hm (c := (qi c).1)
  have hpa : qbu (f + 1) c = if (qi c).2 = true then
      if (qb6 (qbu f) (qi c).1).2.isSome = true then
        if (qs (qb6 (qbu f) (qi c).1).1 [45, 62]).2 = true then
          (qci (qbu f (qs (qb6 (qbu f) (qi c).1).1 [45, 62]).1).1, (qbu f (qs (qb6 (qbu f) (qi c).1).1 [45, 62]).1).2.map (qkc ((qb6 (qbu f) (qi c).1).2.getD N0)))
        else (qci (qb6 (qbu f) (qi c).1).1, (qb6 (qbu f) (qi c).1).2)
      else (qci (qb6 (qbu f) (qi c).1).1, none)
    else ((qi c).1, none) := by rw [qbu]
  rw [hpa]
  clear hpa
  generalize qb6 (qbu f) (qi c).1 = r at *
  have g2 : r.1.good := mrow.1 g1
  have g3 : (qs r.1 [45, 62]).1.good := (qz _ _).1 g2
  have g4 : (qbu f (qs r.1 [45, 62]).1).1.good := (hm _).1 g3
  have hlt : r.2.isSome = true → rest (qs r.1 [45, 62]).1 < f := fun h => by
    have := lrow h
    have := (qz r.1 [45, 62]).2.1
    omega
  refine qx c0ba 1 (by simp) (by simp) ?_
  repeat' (first | refine qj ?_ | ((first | refine qn ?_ | refine qk ?_ | refine qh ?_ | refine qg ?_ | refine qhh ?_ | refine qcp hrow rfl ?_ | refine qd5 g2.ok ?_ | refine qcp (ih _ g3 (hlt (by assumption))) rfl ?_ | refine qfi g4.2.2 ?_ | refine qfi g3.2.2 ?_ | refine qfi g2.2.2 ?_ | refine qt6 ?_ | refine qxp ?_ | ((first | refine qe ?_ ?_ | refine qd ?_ ?_) <;> intro hc <;> (try simp only [hc]) <;> (try simp only [qb, qa, decide_eq_true_eq, decide_eq_false_iff_not, Bool.and_eq_true] at hc)) | refine And.intro (by first | assumption | omega | (have := qf (by assumption); omega) | (unfold qp; omega)) ?_ | simp (disch := omega) only [qc] | simp (disch := omega) only [qo]) <;> (try simp only [go_sem, ↓reduceIte, Nat.reduceEqDiff, Nat.reduceAdd, Nat.reduceSub, Nat.reduceMul, Nat.reduceLT, Nat.reduceLeDiff, reduceCtorEq, Int.reduceToNat])))
  all_goals (try simp only [qc8 (c := r.1) (by assumption)])
  all_goals (try simp only [q3r (r := r.2) (by assumption)])
  all_goals (try simp only [qbdj, q2d])
  all_goals (simp only [*, qd2, if_true, if_false, reduceIte, Bool.false_eq_true, Option.getD_none, Option.getD_some, Option.isSome_none, Option.isSome_some, and_self, true_and, and_true]; try rfl)
theorem qvy (f : Nat) : ∀ c : K, c.good → rest c < f → qcc Try.prog 54 (curE c) (curE (qbu f c).1) [.ptr 0 0] (resP (qbu f c).2) := by
  induction f with
  | zero => exact fun c _ h => absurd h (by omega)
  | succ f ih => exact qyc ih
end Go.Proofs.Ytfjbmjplnmaclaa
