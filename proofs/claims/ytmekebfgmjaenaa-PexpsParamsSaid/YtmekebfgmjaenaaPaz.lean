/- Texts of this proof, joined. -/
import Derived.Test.YtmekebfgmjaenaaPaw
import Derived.Test.YtmekebfgmjaenaaPay

/- the cursor: in other places; texts; trees that are whole -/
namespace Go.Proofs.Ytmekebfgmjaenaa
open Go Go.RowKit Go.V
set_option linter.unusedVariables false
set_option linter.unusedSimpArgs false

section
variable {P : Program} {f : FuncId} {e e' : Ent} {L : List Ent} {args0 args : List AV} {r : AV} {Q : List Ent → VO → Prop}
/-- The call's entry lies at place k. -/
theorem qwj (k : Nat) (h : qca P f e e' args0 r) (hk : L[k]? = some e) (hb : e.bd 0 = true) (hb' : e'.bd 0 = true) (ha : AV.bds 1 args0 = true) (hr : r.bd 0 = true) (hs : AV.rens (sg [k]) args0 = args) (hq : r.wf → Q (L.set k e') (.val r)) :
    VApp P L (.fn f [] []) args Q :=
  qgo (first := []) (caps := []) (by
    simp only [List.nil_append, List.append_nil]
    rw [← hs]
    have hlt : k < L.length := (List.getElem?_eq_some_iff.1 hk).1
    refine qfk (H0 := [e]) [k] (h.mono' (Q' := fun H' o => (H' = [e'] ∧ o = .val r) ∧ r.wf) fun H' o hw ho => ⟨ho, by have := ho.2; subst this; exact hw⟩) (by simp) (by simpa using hlt) rfl ?_ ha ?_
    · intro j e2 hj
      obtain rfl : j = 0 := by have := (List.getElem?_eq_some_iff.1 hj).1; simp at this; omega
      simp only [List.getElem?_cons_zero, Option.some.injEq] at hj
      subst hj
      exact .inr ⟨Ent.bd_le (Nat.zero_le _) _ hb, by rw [Ent.ren_same (m := 0) (fun i hi => by omega) _ hb]; exact hk⟩
    · rintro H1 o ⟨⟨rfl, rfl⟩, hw⟩
      have h1 : e'.ren (sg' [k] L.length) = e' := Ent.ren_same (m := 0) (fun i hi => by omega) _ hb'
      have h2 : r.ren (sg' [k] L.length) = r := ren_same (m := 0) (fun i hi => by omega) _ hr
      simp only [List.length_cons, List.length_nil, List.take_succ_cons, List.take_zero, List.map_cons, List.map_nil, qb7, h1, VO.ren, h2, List.drop_succ_cons, List.drop_nil, List.append_nil]
      exact hq hw)
/-- A call that makes an entry. -/
theorem q7f (h : VCalls P f [] args fun H' o => H' = [e] ∧ o = .val (.ptr 0 0)) (hb : e.bd 0 = true) (ha : AV.bds 0 args = true) (hq : Q (L ++ [e]) (.val (.ptr L.length 0))) : VApp P L (.fn f [] []) args Q :=
  qgo (first := []) (caps := []) (by
    simp only [List.nil_append, List.append_nil]
    have hs : AV.rens (sg []) args = args := qb4 (m := 0) (fun i hi => by omega) _ ha
    rw [← hs]
    refine qfk (H0 := []) [] h (by simp) (by simp) rfl (fun j e2 hj => by simp at hj) ha ?_
    rintro H1 o ⟨rfl, rfl⟩
    have h1 : e.ren (sg' [] L.length) = e := Ent.ren_same (m := 0) (fun i hi => by omega) _ hb
    simp only [List.length_nil, List.take_zero, List.map_nil, qb7, List.drop_zero, List.map_cons, h1, VO.ren, AV.ren, sg', Nat.not_lt_zero, if_false, Nat.sub_zero, Nat.add_zero]
    exact hq)
end
theorem qg9 (s : List UInt8) : (lexV s).1.length ≤ 1048577 ∧ (lexV s).1.length ≤ s.length + 1 := by
  by_cases h : 1048576 < (s.length : Int)
  · rw [qww h]; simp
  · have hll : (lexG s (qck s)).1.length ≤ s.length := by have := qq3 (s := s) (s.length - qck s) (qck s); unfold lexG; omega
    by_cases he : (lexG s (qck s)).2.2 = 0
    · rw [qvi h he]; simp only [List.length_append, List.length_cons, List.length_nil]; omega
    · rw [qqh h he]; simp
theorem qx3 {n : N} (h : sz n ≤ 1000000) : (qem (fun (k : Int) l _ => (if l > k then l else k, true)) n 1 0).1 = depR n := by
  show (qem dpF n 1 0).1 = depR n
  rw [q9g n 1 0 (by omega) (by omega), q8s n (by omega)]
  have := q5p n
  simp only; omega

/-! The cursor: it has gone on, if it has gone; a failure stays. -/
def K.good (c : K) : Prop := c.at' ≤ c.l.length ∧ c.l.length ≤ 1048577 ∧ c.nest ≤ 200
def rest (c : K) : Nat := c.l.length - c.at'
theorem K.good.ok {c : K} (h : c.good) : c.ok := ⟨h.1, Nat.le_trans h.2.1 (by unfold maxLen; omega)⟩
theorem K.good.rest {c : K} (h : c.good) : c.l.length - c.at' ≤ 1048577 := by have := h.2.1; omega
theorem capN {n : Nat} (h : n ≤ 1048580) : qt n 64 := by unfold qt; omega
def Mon (c c' : K) : Prop := (c.good → c'.good) ∧ rest c' ≤ rest c ∧ (c.err ≠ 0 → c'.err = c.err) ∧ c'.l = c.l
theorem Mon.refl (c : K) : Mon c c := ⟨id, Nat.le_refl _, fun _ => rfl, rfl⟩
theorem Mon.trans {a b c : K} (h : Mon a b) (k : Mon b c) : Mon a c := ⟨fun g => k.1 (h.1 g), Nat.le_trans k.2.1 h.2.1, fun e => (k.2.2.1 (by rw [h.2.2.1 e]; exact e)).trans (h.2.2.1 e), k.2.2.2.trans h.2.2.2⟩
def em (c : K) : Nat := if c.err = 0 then rest c + 1 else 0
theorem Mon.em {c c' : K} (h : Mon c c') : em c' ≤ em c := by
  unfold Go.Proofs.Ytmekebfgmjaenaa.em
  have := h.2.1
  split
  · split
    · omega
    · rename_i h1 h2; exact absurd h1 (by rw [h.2.2.1 h2]; exact h2)
  · omega
theorem qxr (c : K) : em c ≤ rest c + 1 := by unfold em; split <;> omega
theorem qbjf {c : K} (h : c.err ≠ 0) : em c = 0 := if_neg h
theorem q9x {c : K} (h : c.err = 0) : em c = rest c + 1 := if_pos h
theorem qg6 (c : K) {e : Int} : (qee c e).err ≠ 0 := by
  unfold qee
  split
  · simp only; split
    · simp
    · assumption
  · assumption
theorem qbm (c : K) : Mon c (qs c) := by
  unfold qs
  split
  · split
    · exact ⟨fun h => ⟨by simp only; omega, h.2⟩, by unfold rest; simp only; omega, fun _ => rfl, rfl⟩
    · exact Mon.refl c
  · exact Mon.refl c
theorem qec (c : K) (e : Int) : Mon c (qee c e) := by
  refine ⟨?_, ?_, fun h => by rw [qev h], ?_⟩ <;> unfold qee <;> split <;> first | exact id | exact Nat.le_refl _ | rfl
theorem qx (c : K) : Mon c (qe c).1 := by
  unfold qe
  split
  · split
    · rename_i h1; exact ⟨fun h => ⟨h.1, h.2.1, by simp only; omega⟩, Nat.le_refl _, fun _ => rfl, rfl⟩
    · exact qec c 2
  · exact Mon.refl c
theorem qbg (c : K) : Mon c (qbv c) := by
  unfold qbv
  split
  · split
    · exact ⟨fun h => ⟨h.1, h.2.1, by have := h.2.2; simp only; omega⟩, Nat.le_refl _, fun _ => rfl, rfl⟩
    · exact Mon.refl c
  · exact Mon.refl c
theorem q8 (c : K) (x : List UInt8) : Mon c (qp c x).1 := by
  unfold qp
  split
  · exact qbm c
  · exact Mon.refl c
theorem qo (c : K) (x : List UInt8) : Mon c (qr c x).1 := by
  unfold qr
  split
  · exact qbm c
  · exact qec c 5
theorem qfm {c : K} (h : (qw c).kind ≠ 0) : c.err = 0 ∧ c.at' < c.l.length := by
  unfold qw at h
  split at h
  · rename_i h1
    split at h
    · rename_i h2; exact ⟨h1, h2⟩
    · exact absurd rfl h
  · exact absurd rfl h
theorem qbh {c : K} (h : (qw c).kind ≠ 0) : rest (qs c) + 1 = rest c := by
  obtain ⟨h1, h2⟩ := qfm h
  rw [qq5 h1 (by omega)]
  unfold rest; simp only; omega
theorem qcd {c : K} {x : List UInt8} (h : isK c x = true) : (qw c).kind ≠ 0 := by
  simp only [isK, qes, Bool.and_eq_true, Bool.or_eq_true, decide_eq_true_eq] at h
  omega
theorem qt7 {c : K} {x : List UInt8} (h : isK c x = true) : c.err = 0 := by
  simp only [isK, Bool.and_eq_true, decide_eq_true_eq] at h
  exact h.1
theorem qhv {c : K} (h : (qe c).2 = true) : c.err = 0 ∧ (qe c).1.err = 0 ∧ (qe c).1 = { c with nest := c.nest + 1 } := by
  unfold qe at h ⊢
  split at h
  · rename_i h1
    split at h
    · rename_i h2; rw [if_pos h1, if_pos h2]; exact ⟨h1, h1, rfl⟩
    · cases h
  · cases h
theorem qcu {c : K} (h : (qe c).2 = true) : qw (qe c).1 = qw c := by rw [(qhv h).2.2]; rfl
theorem qlv {c : K} {x : List UInt8} (h : (qe c).2 = true) : isK (qe c).1 x = isK c x := by rw [(qhv h).2.2]; rfl
theorem qe3 {c : K} (h : (qe c).2 = false) : (qe c).1.err ≠ 0 := by
  unfold qe at h ⊢
  split at h
  · rename_i h1
    split at h
    · cases h
    · rename_i h2; rw [if_pos h1, if_neg h2]; exact qg6 c
  · rename_i h1; rw [if_neg h1]; exact h1
theorem qdh {c : K} {x : List UInt8} (h : (qr c x).2 = false) : (qr c x).1.err ≠ 0 := by
  unfold qr at h ⊢
  split at h
  · cases h
  · rename_i h1; rw [if_neg h1]; exact qg6 c
theorem qb3 {c : K} (h : c.err ≠ 0) : qbv c = c := if_neg h
theorem qpu {c : K} {x : List UInt8} (h : c.err ≠ 0) : isK c x = false := by
  simp only [isK, decide_eq_false h, Bool.false_and]
theorem qbz {c : K} {x : List UInt8} (h : c.err ≠ 0) : qr c x = (c, false) := by
  rw [qr, if_neg (by rw [qpu h]; simp), qev h]
theorem qei {c : K} {x : List UInt8} (h : c.err ≠ 0) : qp c x = (c, false) := qe7 (qpu h)
theorem qgb {c : K} {x : List UInt8} (h : isK c x = true) : qr c x = (qs c, true) := if_pos h

/-! Types: the program. -/
def begT (c : K) : Bool := decide ((qw c).kind = 1) || decide ((qw c).kind = 2) || isK c [40]
def qhg (c : K) (k : Int) (ks : List N) : N := .mk k (qw c).pos 0 (qw c).text ks
def qbr (rec : K → K × Option N) (c : K) : K × Option N :=
  if (qw c).kind = 1 then (qs c, some (qhg c 1 []))
  else if (qw c).kind = 2 then (qs c, some (qhg c 2 []))
  else if isK c [40] = true then
    if (qe c).2 = true then
      if (rec (qs (qe c).1)).2.isSome = true then
        (qbv (qr (rec (qs (qe c).1)).1 [41]).1, if (qr (rec (qs (qe c).1)).1 [41]).2 = true then (rec (qs (qe c).1)).2 else none)
      else (qbv (rec (qs (qe c).1)).1, none)
    else ((qe c).1, none)
  else (qee c 5, none)
def qc2 (rec : K → K × Option N) : Nat → K → List N → K × Option (List N)
  | 0, c, acc => (c, none)
  | f + 1, c, acc =>
    if begT c = true then
      if (qbr rec c).2.isSome = true then qc2 rec f (qbr rec c).1 (acc ++ [(qbr rec c).2.getD N0])
      else ((qbr rec c).1, none)
    else (c, some acc)
def qbx (rec : K → K × Option N) (c : K) : K × Option N :=
  if (qw c).kind = 2 then ((qc2 rec (rest c + 1) (qs c) []).1, (qc2 rec (rest c + 1) (qs c) []).2.map (qhg c 2))
  else qbr rec c
def qiy (n m : N) : N := .mk 2 n.pos 0 [45, 62] [n, m]
def qbt : Nat → K → K × Option N
  | 0, c => (c, none)
  | f + 1, c =>
    if (qe c).2 = true then
      if (qbx (qbt f) (qe c).1).2.isSome = true then
        if (qp (qbx (qbt f) (qe c).1).1 [45, 62]).2 = true then
          (qbv (qbt f (qp (qbx (qbt f) (qe c).1).1 [45, 62]).1).1, (qbt f (qp (qbx (qbt f) (qe c).1).1 [45, 62]).1).2.map (qiy ((qbx (qbt f) (qe c).1).2.getD N0)))
        else (qbv (qbx (qbt f) (qe c).1).1, (qbx (qbt f) (qe c).1).2)
      else (qbv (qbx (qbt f) (qe c).1).1, none)
    else ((qe c).1, none)
section
variable {rec : K → K × Option N} (hm : ∀ c, Mon c (rec c).1)
include hm
theorem qer (c : K) : Mon c (qbr rec c).1 := by
  unfold qbr
  split
  · exact qbm c
  · split
    · exact qbm c
    · split
      · split
        · have h1 := ((qx c).trans (qbm _)).trans (hm _)
          split
          · exact (h1.trans (qo _ _)).trans (qbg _)
          · exact h1.trans (qbg _)
        · exact qx c
      · exact qec c 5
theorem qex {c : K} (h : (qbr rec c).2.isSome = true) : rest (qbr rec c).1 < rest c := by
  unfold qbr at h ⊢
  split at h
  · rename_i h1; rw [if_pos h1]; have := qbh (c := c) (by omega); simp only; omega
  · rename_i h1
    rw [if_neg h1]
    split at h
    · rename_i h2; rw [if_pos h2]; have := qbh (c := c) (by omega); simp only; omega
    · rename_i h2
      rw [if_neg h2]
      split at h
      · rename_i hk
        rw [if_pos hk]
        split at h
        · rename_i he
          rw [if_pos he]
          have hp := qbh (c := (qe c).1) (by rw [qcu he]; exact qcd hk)
          have h0 := (qx c).2.1
          have h1 := (hm (qs (qe c).1)).2.1
          split at h
          · rename_i hr
            rw [if_pos hr]
            have h2 := (qo (rec (qs (qe c).1)).1 [41]).2.1
            have h3 := (qbg (qr (rec (qs (qe c).1)).1 [41]).1).2.1
            simp only; omega
          · cases h
        · cases h
      · cases h
theorem qhd : ∀ (f : Nat) (c : K) (acc : List N), Mon c (qc2 rec f c acc).1
  | 0, c, acc => Mon.refl c
  | f + 1, c, acc => by
    rw [qc2]
    split
    · split
      · exact (qer hm c).trans (qhd f _ _)
      · exact qer hm c
    · exact Mon.refl c
theorem qph (c : K) : Mon c (qbx rec c).1 := by
  unfold qbx
  split
  · exact (qbm c).trans (qhd hm _ _ _)
  · exact qer hm c
theorem qtr {c : K} (h : (qbx rec c).2.isSome = true) : rest (qbx rec c).1 < rest c := by
  unfold qbx at h ⊢
  split at h
  · rename_i h1
    rw [if_pos h1]
    have := qbh (c := c) (by omega)
    have := (qhd hm (rest c + 1) (qs c) []).2.1
    simp only; omega
  · rename_i h1
    rw [if_neg h1]
    exact qex hm h
end
theorem qfx : ∀ (f : Nat) (c : K), Mon c (qbt f c).1
  | 0, c => Mon.refl c
  | f + 1, c => by
    have hr := (qx c).trans (qph (qfx f) (qe c).1)
    rw [qbt]
    split
    · split
      · split
        · exact ((hr.trans (q8 _ _)).trans (qfx f _)).trans (qbg _)
        · exact hr.trans (qbg _)
      · exact hr.trans (qbg _)
    · exact qx c
theorem q1f {c : K} (h : begT c = true) : c.err = 0 := by
  simp only [begT, Bool.or_eq_true, decide_eq_true_eq] at h
  rcases h with (h | h) | h
  · exact (qfm (by omega)).1
  · exact (qfm (by omega)).1
  · exact qt7 h
theorem qbam {c : K} (h : c.err ≠ 0) : begT c = false := by
  cases hb : begT c with
  | false => rfl
  | true => exact absurd (q1f hb) h
set_option maxRecDepth 4000

def resP (r : Option N) : AV := .tup [enc (r.getD N0), .bool r.isSome]
attribute [go_sem] resP
theorem q2z (k : Nat) (r : Option N) : (resP r).bd k = true := by simp only [resP, AV.bd, AV.bds, qmr, Bool.and_true]
theorem qc7 {P : Program} {f : FuncId} {c c' : K} {L : List Ent} {args : List AV} {r : Option N} {Q : List Ent → VO → Prop} (h : qca P f (curE c) (curE c') args (resP r)) (ha : AV.bds 1 args = true) (hq : Q (curE c' :: L) (.val (resP r))) : VApp P (curE c :: L) (.fn f [] []) args Q :=
  qb0 h (qbk _ _) (qbk _ _) ha (q2z _ _) fun _ => hq
theorem qd3 : AV.agg [.int .i64 0, .int .i64 0, .int .i64 0, .str [], .sl 5 []] = enc N0 := by simp [N0, enc, encs]
/-- The tree, or nothing. -/
def qkb (n : N) (b : Bool) : Option N := if b = true then some n else none
theorem q8c (n : N) : qkb n false = none := rfl
theorem q1h {r : Option N} {b : Bool} (h : r.isSome = true) : qkb (r.getD N0) b = if b = true then r else none := by
  cases r with
  | none => cases h
  | some n => rfl
theorem q5n (c : K) (n : N) (b : Bool) : qca Try.prog 63 (curE c) (curE c) [.ptr 0 0, enc n, .bool b] (resP (qkb n b)) := by
  refine q9 c0x 1 (by simp) (by simp) ?_
  repeat' (first | refine ql ?_ | ((first | refine qn ?_ | refine qm ?_ | refine qj ?_ | refine qi ?_ | ((first | refine qf ?_ ?_ | refine qc ?_ ?_) <;> intro hc <;> (try simp only [hc]) <;> (try simp only [qb, qa, decide_eq_true_eq, decide_eq_false_iff_not, Bool.and_eq_true] at hc)) | refine And.intro (by first | assumption | omega | (have := qh (by assumption); omega) | (unfold qt; omega)) ?_ | simp (disch := omega) only [qd] | simp (disch := omega) only [qq]) <;> (try simp only [go_sem, ↓reduceIte, Nat.reduceEqDiff, Nat.reduceAdd, Nat.reduceSub, Nat.reduceMul, Nat.reduceLT, Nat.reduceLeDiff, reduceCtorEq, Int.reduceToNat])))
  all_goals (unfold qkb; simp_all [qd3])
theorem qrn {c : K} {L : List Ent} {n : N} {b : Bool} {Q : List Ent → VO → Prop} (hq : Q (curE c :: L) (.val (resP (qkb n b)))) : VApp Try.prog (curE c :: L) (.fn 63 [] []) [.ptr 0 0, enc n, .bool b] Q := qc7 (q5n c n b) (by simp only [AV.bds, AV.bd, qmr]; rfl) hq
theorem qt6 {c : K} {L : List Ent} {n m : N} {b : Bool} {Q : List Ent → VO → Prop} (hq : Q (curE c :: L) (.val (resP (qkb (qiy n m) b)))) :
    VApp Try.prog (curE c :: L) (.fn 63 [] []) [.ptr 0 0, .agg [.int .i64 2, .int .i64 n.pos, .int .i64 0, .str [45, 62], .sl 5 [enc n, enc m]], .bool b] Q := by
  have h := qrn (n := qiy n m) hq
  simpa only [qiy, enc, encs] using h
theorem qpz {r : Option N} {g : N → N} : qkb (g (r.getD N0)) r.isSome = r.map g := by cases r <;> rfl
theorem qy2 {r : Option N} {n : N} : qkb (qiy n (r.getD N0)) r.isSome = r.map (qiy n) := qpz
theorem qdo {c : K} {x : List UInt8} (h : (qp c x).2 = false) : (qp c x).1 = c := by
  unfold qp at *
  split at h
  · cases h
  · rename_i h1; rw [if_neg h1]
theorem qw8 (c : K) : qca Try.prog 71 (curE c) (curE c) [.ptr 0 0] (.bool (begT c)) := by
  refine q9 c0y 1 (by simp) (by simp) ?_
  repeat' (first | refine ql ?_ | ((first | refine qn ?_ | refine qm ?_ | refine qc8 ?_ | refine a_Is ?_ | ((first | refine qf ?_ ?_ | refine qc ?_ ?_) <;> intro hc <;> (try simp only [hc]) <;> (try simp only [qb, qa, decide_eq_true_eq, decide_eq_false_iff_not, Bool.and_eq_true] at hc)) | refine And.intro (by first | assumption | omega | (have := qh (by assumption); omega) | (unfold qt; omega)) ?_ | simp (disch := omega) only [qd] | simp (disch := omega) only [qq]) <;> (try simp only [go_sem, ↓reduceIte, Nat.reduceEqDiff, Nat.reduceAdd, Nat.reduceSub, Nat.reduceMul, Nat.reduceLT, Nat.reduceLeDiff, reduceCtorEq, Int.reduceToNat])))
  all_goals (unfold begT; simp_all)
theorem q77 {c : K} {L : List Ent} {Q : List Ent → VO → Prop} (hq : Q (curE c :: L) (.val (.bool (begT c)))) : VApp Try.prog (curE c :: L) (.fn 71 [] []) [.ptr 0 0] Q := qb0 (qw8 c) (qbk _ _) (qbk _ _) rfl rfl fun _ => hq
theorem qcr {l : List N} (h : l ≠ []) : encs l ≠ [] := by cases l with | nil => exact absurd rfl h | cons _ _ => simp [encs]
def qzk (p : Int) (t : List UInt8) (c : K) (acc : List N) : AF × List Ent :=
  (⟨[(0, .ptr 0 0), (2, .ptr 1 0), (5, .ptr 2 0)], []⟩,
    curE c :: .blk [.int .i64 0, .int .i64 0, .int .i64 0, .str [], .nils] :: .blk [.int .i64 2, .int .i64 p, .int .i64 0, .str t, accV 3 (encs acc)] :: accE 5 (encs acc))
section
variable {rec : K → K × Option N} {b : Nat} (hm : ∀ c, Mon c (rec c).1) (ih : ∀ c, c.good → rest c < b → qca Try.prog 62 (curE c) (curE (rec c).1) [.ptr 0 0] (resP (rec c).2))
include hm ih
theorem qis (c : K) (hg : c.good) (hr : rest c ≤ b) : qca Try.prog 70 (curE c) (curE (qbr rec c).1) [.ptr 0 0] (resP (qbr rec c).2) := by
  have g1 : (qe c).1.good := (qx c).1 hg
  have g2 : (qs (qe c).1).good := (qbm _).1 g1
  have g3 : (rec (qs (qe c).1)).1.good := (hm _).1 g2
  have g4 : (qr (rec (qs (qe c).1)).1 [41]).1.good := (qo _ _).1 g3
  have hrr : isK c [40] = true → (qe c).2 = true → rest (qs (qe c).1) < b := fun h1 h2 => by
    have := qbh (c := (qe c).1) (by rw [qcu h2]; exact qcd h1)
    have := (qx c).2.1
    omega
  refine q9 c0z 1 (by simp) (by simp) ?_
  repeat' (first | refine ql ?_ | refine qk ?_ | ((first | refine qn ?_ | refine qm ?_ | refine qj ?_ | refine qi ?_ | refine qc8 ?_ | refine a_Is ?_ | refine qpr ?_ | refine qgk ?_ | refine qh9 hg.ok ?_ | refine qh9 g1.ok ?_ | refine qc7 (ih _ g2 (hrr (by assumption) (by assumption))) rfl ?_ | refine qde g3.ok ?_ | refine qek g4.2.2 ?_ | refine qek g3.2.2 ?_ | refine qrn ?_ | ((first | refine qf ?_ ?_ | refine qc ?_ ?_) <;> intro hc <;> (try simp only [hc]) <;> (try simp only [qb, qa, decide_eq_true_eq, decide_eq_false_iff_not, Bool.and_eq_true] at hc)) | refine And.intro (by first | assumption | omega | (have := qh (by assumption); omega) | (unfold qt; omega)) ?_ | simp (disch := omega) only [qd] | simp (disch := omega) only [qq]) <;> (try simp only [go_sem, ↓reduceIte, Nat.reduceEqDiff, Nat.reduceAdd, Nat.reduceSub, Nat.reduceMul, Nat.reduceLT, Nat.reduceLeDiff, reduceCtorEq, Int.reduceToNat])))
  all_goals (try simp only [q1h (r := (rec (qs (qe c).1)).2) (by assumption)])
  all_goals (try simp only [q8c])
  all_goals (unfold qbr qhg; simp only [*, qd3, Int.reduceEq, if_true, if_false, reduceIte, Bool.false_eq_true, Option.getD_none, Option.getD_some, Option.isSome_none, Option.isSome_some, and_self, true_and, and_true]; try rfl)
theorem qbc1 (c : K) (hg : c.good) (hr : rest c ≤ b) : qca Try.prog 69 (curE c) (curE (qbx rec c).1) [.ptr 0 0] (resP (qbx rec c).2) := by
  refine q9 c0ba 1 (by simp) (by simp) ?_
  by_cases hk : (qw c).kind = 2
  · have g1 : (qs c).good := (qbm _).1 hg
    have hpa : qbx rec c = ((qc2 rec (rest c + 1) (qs c) []).1, (qc2 rec (rest c + 1) (qs c) []).2.map (qhg c 2)) := by rw [qbx, if_pos hk]
    rw [hpa]
    clear hpa
    generalize htg : qc2 rec (rest c + 1) (qs c) [] = tg
    have hmt : Mon (qs c) tg.1 := htg ▸ qhd hm _ _ _
    have hrn := qbh (c := c) (by omega)
    repeat' (first | refine ql ?_ | refine qk ?_ | ((first | refine qn ?_ | refine qm ?_ | refine qz ?_ | refine qj ?_ | refine qi ?_) <;> (try simp (disch := first | omega | (simp only [List.length_set, List.length_append, List.length_cons, List.length_nil]; done) | (simp only [List.length_set, List.length_append, List.length_cons, List.length_nil]; omega)) only [hk, Int.reduceEq, go_sem, ↓reduceIte, Nat.reduceEqDiff, Nat.reduceAdd, Nat.reduceSub, Nat.reduceMul, Nat.reduceLT, Nat.reduceLeDiff, reduceCtorEq, Int.reduceToNat])) | ((first | ((first | refine qf ?_ ?_ | refine qc ?_ ?_) <;> intro hc <;> (try simp only [hc]) <;> (try simp only [qb, qa, decide_eq_true_eq, decide_eq_false_iff_not, Bool.and_eq_true] at hc)) | refine And.intro (by first | assumption | omega | (have := qh (by assumption); omega) | (unfold qt; omega)) ?_ | simp (disch := omega) only [qd] | simp (disch := omega) only [qq] | refine qc8 ?_ | refine qh9 hg.ok ?_) <;> (try simp only [go_sem, ↓reduceIte, Nat.reduceEqDiff, Nat.reduceAdd, Nat.reduceSub, Nat.reduceMul, Nat.reduceLT, Nat.reduceLeDiff, reduceCtorEq, Int.reduceToNat])))
    refine qc5 (S := Nat × K × List N) (fun x => x.2.1.good ∧ rest x.2.1 ≤ b ∧ qc2 rec x.1 x.2.1 x.2.2 = tg ∧ rest x.2.1 < x.1 ∧ x.2.2.length + rest x.2.1 ≤ 1048577)
      (fun x => qzk (qw c).pos (qw c).text x.2.1 x.2.2) (fun x => rest x.2.1 + 1) ?_ ?_
    · refine qcq (rest c + 1, qs c, []) [0, 1, 3] ⟨g1, by simp only; omega, htg, by simp only; omega, ?_⟩ rfl (by simp) ?_ ?_ ?_
      · have h9 := g1.rest
        unfold rest
        simp only [List.length_nil]
        omega
      all_goals simp only [qzk, encs, qb8, qce]
      all_goals simp only [go_sem, ↓reduceIte, Nat.reduceEqDiff, Nat.reduceAdd, Nat.reduceSub, Nat.reduceMul, Nat.reduceLT, Nat.reduceLeDiff, reduceCtorEq, Int.reduceToNat]
    · rintro ⟨fu, d, acc⟩ ⟨i1, i2, i3, i4, i5⟩
      simp only at i1 i2 i3 i4 i5
      unfold qzk
      obtain ⟨fu, rfl⟩ : ∃ k, fu = k + 1 := ⟨fu - 1, by omega⟩
      rw [qc2] at i3
      have hcap : qt (acc.length + 1) 64 := capN (by omega)
      have j1 : (qbr rec d).1.good := (qer hm d).1 i1
      have j2 : rest (qbr rec d).1 ≤ rest d := (qer hm d).2.1
      by_cases h0 : acc = []
      · subst h0
        simp only [encs, qb8, qce]
        repeat' (first | refine ql ?_ | refine qk ?_ | ((first | refine qn ?_ | refine qm ?_ | refine qz ?_ | refine qj ?_ | refine qi ?_ | refine q77 ?_ | refine qc7 (qis hm ih _ i1 i2) rfl ?_ | ((first | refine qf ?_ ?_ | refine qc ?_ ?_) <;> intro hc <;> (try simp only [hc]) <;> (try simp only [qb, qa, decide_eq_true_eq, decide_eq_false_iff_not, Bool.and_eq_true] at hc)) | refine And.intro (by first | assumption | omega | (have := qh (by assumption); omega) | (unfold qt; omega)) ?_ | simp (disch := omega) only [qd] | simp (disch := omega) only [qq]) <;> (try simp only [go_sem, ↓reduceIte, Nat.reduceEqDiff, Nat.reduceAdd, Nat.reduceSub, Nat.reduceMul, Nat.reduceLT, Nat.reduceLeDiff, reduceCtorEq, Int.reduceToNat])))
        · have hb : begT d = true := by assumption
          have hs : (qbr rec d).2.isSome = false := by assumption
          rw [if_pos hb, if_neg (by rw [hs]; simp)] at i3
          subst i3
          exact ⟨rfl, by rw [qd3]; rfl⟩
        · have hb : begT d = true := by assumption
          have hs : (qbr rec d).2.isSome = true := by assumption
          rw [if_pos hb, if_pos hs] at i3
          have hlt := qex hm hs
          refine qcq (fu, (qbr rec d).1, [] ++ [(qbr rec d).2.getD N0]) [0, 1, 2, 4] ⟨⟨j1, by simp only; omega, i3, by simp only; omega, ?_⟩, by simp only; omega⟩ rfl (by simp) ?_ ?_ ?_
          · simp only [List.length_append, List.length_cons, List.length_nil]; omega
          all_goals simp only [qzk, ← qbf, qe2, qe0, List.nil_append, encs, qf5, qgf]
          all_goals simp only [go_sem, ↓reduceIte, Nat.reduceEqDiff, Nat.reduceAdd, Nat.reduceSub, Nat.reduceMul, Nat.reduceLT, Nat.reduceLeDiff, reduceCtorEq, Int.reduceToNat]
        · have hb : begT d = false := by assumption
          rw [if_neg (by rw [hb]; simp)] at i3
          subst i3
          simp only [Option.map_some, Option.getD_some, Option.isSome_some, enc, encs, qhg, and_self]
      · have hne := qcr h0
        simp only [qcm hne, qcl hne, qcc]
        repeat' (first | refine ql ?_ | refine qk ?_ | ((first | refine qn ?_ | refine qm ?_ | refine qz ?_ | refine qj ?_ | refine qi ?_ | refine q77 ?_ | refine qc7 (qis hm ih _ i1 i2) rfl ?_ | ((first | refine qf ?_ ?_ | refine qc ?_ ?_) <;> intro hc <;> (try simp only [hc]) <;> (try simp only [qb, qa, decide_eq_true_eq, decide_eq_false_iff_not, Bool.and_eq_true] at hc)) | refine And.intro (by first | assumption | omega | (have := qh (by assumption); omega) | (unfold qt; omega)) ?_ | simp (disch := omega) only [qd] | simp (disch := omega) only [qq]) <;> (try simp only [go_sem, ↓reduceIte, Nat.reduceEqDiff, Nat.reduceAdd, Nat.reduceSub, Nat.reduceMul, Nat.reduceLT, Nat.reduceLeDiff, reduceCtorEq, Int.reduceToNat])))
        · have hb : begT d = true := by assumption
          have hs : (qbr rec d).2.isSome = false := by assumption
          rw [if_pos hb, if_neg (by rw [hs]; simp)] at i3
          subst i3
          exact ⟨rfl, by rw [qd3]; rfl⟩
        · have hb : begT d = true := by assumption
          have hs : (qbr rec d).2.isSome = true := by assumption
          rw [if_pos hb, if_pos hs] at i3
          have hlt := qex hm hs
          refine qcq (fu, (qbr rec d).1, acc ++ [(qbr rec d).2.getD N0]) [0, 1, 2, 5] ⟨⟨j1, by simp only; omega, i3, by simp only; omega, ?_⟩, by simp only; omega⟩ rfl (by simp) ?_ ?_ ?_
          · simp only [List.length_append, List.length_cons, List.length_nil]; omega
          all_goals simp only [qzk, ← qbf, qe2, qe0, List.nil_append, encs, qf5, qgf]
          all_goals simp only [go_sem, ↓reduceIte, Nat.reduceEqDiff, Nat.reduceAdd, Nat.reduceSub, Nat.reduceMul, Nat.reduceLT, Nat.reduceLeDiff, reduceCtorEq, Int.reduceToNat]
          rw [qbf, qcs, qdr]; exact ⟨rfl, rfl⟩
        · have hb : begT d = false := by assumption
          rw [if_neg (by rw [hb]; simp)] at i3
          subst i3
          simp only [Option.map_some, Option.getD_some, Option.isSome_some, enc, encs, qhg, and_self]
  · repeat' (first | refine ql ?_ | refine qk ?_ | ((first | refine qn ?_ | refine qm ?_ | refine qz ?_ | refine qj ?_ | refine qi ?_) <;> (try simp (disch := first | omega | (simp only [List.length_set, List.length_append, List.length_cons, List.length_nil]; done) | (simp only [List.length_set, List.length_append, List.length_cons, List.length_nil]; omega)) only [hk, go_sem, ↓reduceIte, Nat.reduceEqDiff, Nat.reduceAdd, Nat.reduceSub, Nat.reduceMul, Nat.reduceLT, Nat.reduceLeDiff, reduceCtorEq, Int.reduceToNat])) | ((first | ((first | refine qf ?_ ?_ | refine qc ?_ ?_) <;> intro hc <;> (try simp only [hc]) <;> (try simp only [qb, qa, decide_eq_true_eq, decide_eq_false_iff_not, Bool.and_eq_true] at hc)) | refine And.intro (by first | assumption | omega | (have := qh (by assumption); omega) | (unfold qt; omega)) ?_ | simp (disch := omega) only [qd] | simp (disch := omega) only [qq] | refine qc8 ?_ | refine qc7 (qis hm ih c hg hr) rfl ?_) <;> (try simp only [go_sem, ↓reduceIte, Nat.reduceEqDiff, Nat.reduceAdd, Nat.reduceSub, Nat.reduceMul, Nat.reduceLT, Nat.reduceLeDiff, reduceCtorEq, Int.reduceToNat])))
    rw [qbx, if_neg hk]; exact ⟨rfl, rfl⟩
end
theorem qul {f : Nat} (ih : ∀ c, c.good → rest c < f → qca Try.prog 62 (curE c) (curE (qbt f c).1) [.ptr 0 0] (resP (qbt f c).2)) (c : K) (hg : c.good) (hr : rest c < f + 1) :
    qca Try.prog 62 (curE c) (curE (qbt (f + 1) c).1) [.ptr 0 0] (resP (qbt (f + 1) c).2) := by
  have hm := qfx f
  have g1 : (qe c).1.good := (qx c).1 hg
  have hr1 : rest (qe c).1 ≤ f := by have := (qx c).2.1; omega
  have hrow := qbc1 hm ih _ g1 hr1
  have mrow := qph hm (qe c).1
  have lrow := qtr hm (c := (qe c).1)
  have hpa : qbt (f + 1) c = if (qe c).2 = true then
      if (qbx (qbt f) (qe c).1).2.isSome = true then
        if (qp (qbx (qbt f) (qe c).1).1 [45, 62]).2 = true then
          (qbv (qbt f (qp (qbx (qbt f) (qe c).1).1 [45, 62]).1).1, (qbt f (qp (qbx (qbt f) (qe c).1).1 [45, 62]).1).2.map (qiy ((qbx (qbt f) (qe c).1).2.getD N0)))
        else (qbv (qbx (qbt f) (qe c).1).1, (qbx (qbt f) (qe c).1).2)
      else (qbv (qbx (qbt f) (qe c).1).1, none)
    else ((qe c).1, none) := by rw [qbt]
  rw [hpa]
  clear hpa
  generalize qbx (qbt f) (qe c).1 = r at *
  have g2 : r.1.good := mrow.1 g1
  have g3 : (qp r.1 [45, 62]).1.good := (q8 _ _).1 g2
  have g4 : (qbt f (qp r.1 [45, 62]).1).1.good := (hm _).1 g3
  have hlt : r.2.isSome = true → rest (qp r.1 [45, 62]).1 < f := fun h => by
    have := lrow h
    have := (q8 r.1 [45, 62]).2.1
    omega
  refine q9 c0bb 1 (by simp) (by simp) ?_
  repeat' (first | refine ql ?_ | ((first | refine qn ?_ | refine qm ?_ | refine qj ?_ | refine qi ?_ | refine qgk ?_ | refine qc7 hrow rfl ?_ | refine qd9 g2.ok ?_ | refine qc7 (ih _ g3 (hlt (by assumption))) rfl ?_ | refine qek g4.2.2 ?_ | refine qek g3.2.2 ?_ | refine qek g2.2.2 ?_ | refine qrn ?_ | refine qt6 ?_ | ((first | refine qf ?_ ?_ | refine qc ?_ ?_) <;> intro hc <;> (try simp only [hc]) <;> (try simp only [qb, qa, decide_eq_true_eq, decide_eq_false_iff_not, Bool.and_eq_true] at hc)) | refine And.intro (by first | assumption | omega | (have := qh (by assumption); omega) | (unfold qt; omega)) ?_ | simp (disch := omega) only [qd] | simp (disch := omega) only [qq]) <;> (try simp only [go_sem, ↓reduceIte, Nat.reduceEqDiff, Nat.reduceAdd, Nat.reduceSub, Nat.reduceMul, Nat.reduceLT, Nat.reduceLeDiff, reduceCtorEq, Int.reduceToNat])))
  all_goals (try simp only [qdo (c := r.1) (by assumption)])
  all_goals (try simp only [q1h (r := r.2) (by assumption)])
  all_goals (try simp only [q8c, qy2])
  all_goals (simp only [*, qd3, if_true, if_false, reduceIte, Bool.false_eq_true, Option.getD_none, Option.getD_some, Option.isSome_none, Option.isSome_some, and_self, true_and, and_true]; try rfl)
theorem q27 (f : Nat) : ∀ c : K, c.good → rest c < f → qca Try.prog 62 (curE c) (curE (qbt f c).1) [.ptr 0 0] (resP (qbt f c).2) := by
  induction f with
  | zero => exact fun c _ h => absurd h (by omega)
  | succ f ih => exact qul ih
end Go.Proofs.Ytmekebfgmjaenaa
