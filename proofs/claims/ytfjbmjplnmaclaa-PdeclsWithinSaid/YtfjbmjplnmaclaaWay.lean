/- Texts of this proof, joined. -/
import Derived.Test.YtfjbmjplnmaclaaWav
import Derived.Test.YtfjbmjplnmaclaaWax

/- the cursor: in other places; texts; trees that are whole -/
namespace Go.Proofs.Ytfjbmjplnmaclaa
open Go Go.RowKit Go.V
set_option linter.unusedVariables false
set_option linter.unusedSimpArgs false

section
variable {P : Program} {f : FuncId} {e e' : Ent} {L : List Ent} {args0 args : List AV} {r : AV} {Q : List Ent → VO → Prop}
/-- The call's entry lies at place k. -/
theorem qsi (k : Nat) (h : qbz P f e e' args0 r) (hk : L[k]? = some e) (hb : e.bd 0 = true) (hb' : e'.bd 0 = true) (ha : AV.bds 1 args0 = true) (hr : r.bd 0 = true) (hs : AV.rens (sg [k]) args0 = args) (hq : r.wf → Q (L.set k e') (.val r)) :
    VApp P L (.fn f [] []) args Q :=
  qby (first := []) (caps := []) (by
    simp only [List.nil_append, List.append_nil]
    rw [← hs]
    have hlt : k < L.length := (List.getElem?_eq_some_iff.1 hk).1
    refine qeu (H0 := [e]) [k] (h.mono' (Q' := fun H' o => (H' = [e'] ∧ o = .val r) ∧ r.wf) fun H' o hw ho => ⟨ho, by have := ho.2; subst this; exact hw⟩) (by simp) (by simpa using hlt) rfl ?_ ha ?_
    · intro j e2 hj
      obtain rfl : j = 0 := by have := (List.getElem?_eq_some_iff.1 hj).1; simp at this; omega
      simp only [List.getElem?_cons_zero, Option.some.injEq] at hj
      subst hj
      exact .inr ⟨Ent.bd_le (Nat.zero_le _) _ hb, by rw [Ent.ren_same (m := 0) (fun i hi => by omega) _ hb]; exact hk⟩
    · rintro H1 o ⟨⟨rfl, rfl⟩, hw⟩
      have h1 : e'.ren (sg' [k] L.length) = e' := Ent.ren_same (m := 0) (fun i hi => by omega) _ hb'
      have h2 : r.ren (sg' [k] L.length) = r := ren_same (m := 0) (fun i hi => by omega) _ hr
      simp only [List.length_cons, List.length_nil, List.take_succ_cons, List.take_zero, List.map_cons, List.map_nil, qbq, h1, VO.ren, h2, List.drop_succ_cons, List.drop_nil, List.append_nil]
      exact hq hw)
/-- A call that makes an entry. -/
theorem q5e (h : VCalls P f [] args fun H' o => H' = [e] ∧ o = .val (.ptr 0 0)) (hb : e.bd 0 = true) (ha : AV.bds 0 args = true) (hq : Q (L ++ [e]) (.val (.ptr L.length 0))) : VApp P L (.fn f [] []) args Q :=
  qby (first := []) (caps := []) (by
    simp only [List.nil_append, List.append_nil]
    have hs : AV.rens (sg []) args = args := qb4 (m := 0) (fun i hi => by omega) _ ha
    rw [← hs]
    refine qeu (H0 := []) [] h (by simp) (by simp) rfl (fun j e2 hj => by simp at hj) ha ?_
    rintro H1 o ⟨rfl, rfl⟩
    have h1 : e.ren (sg' [] L.length) = e := Ent.ren_same (m := 0) (fun i hi => by omega) _ hb
    simp only [List.length_nil, List.take_zero, List.map_nil, qbq, List.drop_zero, List.map_cons, h1, VO.ren, AV.ren, sg', Nat.not_lt_zero, if_false, Nat.sub_zero, Nat.add_zero]
    exact hq)
end
theorem qnz (s : List UInt8) : (lexV s).1.length ≤ 1048577 ∧ (lexV s).1.length ≤ s.length + 1 := by
  by_cases h : 1048576 < (s.length : Int)
  · rw [qsh h]; simp
  · have hll : (lexG s (qb9 s)).1.length ≤ s.length := by have := qnu (s := s) (s.length - qb9 s) (qb9 s); unfold lexG; omega
    by_cases he : (lexG s (qb9 s)).2.2 = 0
    · rw [qx3 h he]; simp only [List.length_append, List.length_cons, List.length_nil]; omega
    · rw [qsz h he]; simp
theorem qtv {n : N} (h : sz n ≤ 1000000) : (qd5 (fun (k : Int) l _ => (if l > k then l else k, true)) n 1 0).1 = depR n := by
  show (qd5 dpF n 1 0).1 = depR n
  rw [qbel n 1 0 (by omega) (by omega), q8x n (by omega)]
  have := q40 n
  simp only; omega

/-! The cursor: it has gone on, if it has gone; a failure stays. -/
def K.good (c : K) : Prop := c.at' ≤ c.l.length ∧ c.l.length ≤ 1048577 ∧ c.nest ≤ 200
def rest (c : K) : Nat := c.l.length - c.at'
theorem K.good.ok {c : K} (h : c.good) : c.ok := ⟨h.1, Nat.le_trans h.2.1 (by unfold maxLen; omega)⟩
theorem K.good.rest {c : K} (h : c.good) : c.l.length - c.at' ≤ 1048577 := by have := h.2.1; omega
theorem capN {n : Nat} (h : n ≤ 1048580) : qo n 64 := by unfold qo; omega
/-- Where a failure may be: within the text; its number. -/
def Wi (B : Int) (c : K) : Prop := (∀ t ∈ c.l, 0 ≤ t.pos ∧ t.pos ≤ B) ∧ 0 ≤ c.ep ∧ c.ep ≤ B ∧ (c.err ≠ 0 → 0 ≤ c.pos ∧ c.pos ≤ B ∧ (c.err = 2 ∨ c.err = 5))
def Mon (c c' : K) : Prop := (c.good → c'.good) ∧ rest c' ≤ rest c ∧ (c.err ≠ 0 → c'.err = c.err) ∧ c'.l = c.l ∧ ∀ B, Wi B c → Wi B c'
theorem Mon.refl (c : K) : Mon c c := ⟨id, Nat.le_refl _, fun _ => rfl, rfl, fun _ h => h⟩
theorem Mon.trans {a b c : K} (h : Mon a b) (k : Mon b c) : Mon a c := ⟨fun g => k.1 (h.1 g), Nat.le_trans k.2.1 h.2.1, fun e => (k.2.2.1 (by rw [h.2.2.1 e]; exact e)).trans (h.2.2.1 e), k.2.2.2.1.trans h.2.2.2.1, fun B g => k.2.2.2.2 B (h.2.2.2.2 B g)⟩
def em (c : K) : Nat := if c.err = 0 then rest c + 1 else 0
theorem qcj (c : K) : Mon c (qbg c) := by
  unfold qbg
  split
  · split
    · exact ⟨fun h => ⟨by simp only; omega, h.2⟩, by unfold rest; simp only; omega, fun _ => rfl, rfl, fun _ h => h⟩
    · exact Mon.refl c
  · exact Mon.refl c
theorem qbaj {B : Int} {c : K} (h : Wi B c) (he : c.err = 0) : 0 ≤ (qba c).pos ∧ (qba c).pos ≤ B := by
  by_cases hl : c.at' < c.l.length
  · rw [qsn he (by omega)]
    refine h.1 _ ?_
    rw [List.getD_eq_getElem?_getD, List.getElem?_eq_getElem hl]
    exact List.getElem_mem hl
  · rw [qpr he (by omega)]
    exact ⟨h.2.1, h.2.2.1⟩
theorem qeb (c : K) (e : Int) (he : e = 2 ∨ e = 5 := by decide) : Mon c (qea c e) := by
  refine ⟨?_, ?_, fun h => by rw [qlb h], ?_, ?_⟩
  · unfold qea; split <;> exact id
  · unfold qea; split <;> exact Nat.le_refl _
  · unfold qea; split <;> rfl
  · intro B h
    unfold qea
    split
    · rename_i h0
      have h1 := qbaj h h0
      refine ⟨h.1, h.2.1, h.2.2.1, fun _ => ⟨h1.1, h1.2, ?_⟩⟩
      simp only
      rw [if_neg (by omega)]; exact he
    · exact h
theorem qbb (c : K) : Mon c (qp c).1 := by
  unfold qp
  split
  · split
    · rename_i h1; exact ⟨fun h => ⟨h.1, h.2.1, by simp only; omega⟩, Nat.le_refl _, fun _ => rfl, rfl, fun _ h => h⟩
    · exact qeb c 2
  · exact Mon.refl c
theorem qb1 (c : K) : Mon c (qdg c) := by
  unfold qdg
  split
  · split
    · exact ⟨fun h => ⟨h.1, h.2.1, by have := h.2.2; simp only; omega⟩, Nat.le_refl _, fun _ => rfl, rfl, fun _ h => h⟩
    · exact Mon.refl c
  · exact Mon.refl c
theorem q8 (c : K) (x : List UInt8) : Mon c (qw c x).1 := by
  unfold qw
  split
  · exact qcj c
  · exact Mon.refl c
theorem qt (c : K) (x : List UInt8) : Mon c (qx c x).1 := by
  unfold qx
  split
  · exact qcj c
  · exact qeb c 5
theorem qts {c : K} (h : (qba c).kind ≠ 0) : c.err = 0 ∧ c.at' < c.l.length := by
  unfold qba at h
  split at h
  · rename_i h1
    split at h
    · rename_i h2; exact ⟨h1, h2⟩
    · exact absurd rfl h
  · exact absurd rfl h
theorem qbm {c : K} (h : (qba c).kind ≠ 0) : rest (qbg c) + 1 = rest c := by
  obtain ⟨h1, h2⟩ := qts h
  rw [qsy h1 (by omega)]
  unfold rest; simp only; omega
theorem qdm {c : K} {x : List UInt8} (h : isK c x = true) : (qba c).kind ≠ 0 := by
  simp only [isK, qlw, Bool.and_eq_true, Bool.or_eq_true, decide_eq_true_eq] at h
  omega
theorem qv2 {c : K} (h : (qp c).2 = true) : c.err = 0 ∧ (qp c).1.err = 0 ∧ (qp c).1 = { c with nest := c.nest + 1 } := by
  unfold qp at h ⊢
  split at h
  · rename_i h1
    split at h
    · rename_i h2; rw [if_pos h1, if_pos h2]; exact ⟨h1, h1, rfl⟩
    · cases h
  · cases h
theorem qdo {c : K} (h : (qp c).2 = true) : qba (qp c).1 = qba c := by rw [(qv2 h).2.2]; rfl
/-! Types: the program. -/
def begT (c : K) : Bool := decide ((qba c).kind = 1) || decide ((qba c).kind = 2) || isK c [40]
def qjk (c : K) (k : Int) (ks : List N) : N := .mk k (qba c).pos 0 (qba c).text ks
def qb6 (rec : K → K × Option N) (c : K) : K × Option N :=
  if (qba c).kind = 1 then (qbg c, some (qjk c 1 []))
  else if (qba c).kind = 2 then (qbg c, some (qjk c 2 []))
  else if isK c [40] = true then
    if (qp c).2 = true then
      if (rec (qbg (qp c).1)).2.isSome = true then
        (qdg (qx (rec (qbg (qp c).1)).1 [41]).1, if (qx (rec (qbg (qp c).1)).1 [41]).2 = true then (rec (qbg (qp c).1)).2 else none)
      else (qdg (rec (qbg (qp c).1)).1, none)
    else ((qp c).1, none)
  else (qea c 5, none)
def qd6 (rec : K → K × Option N) : Nat → K → List N → K × Option (List N)
  | 0, c, acc => (c, none)
  | f + 1, c, acc =>
    if begT c = true then
      if (qb6 rec c).2.isSome = true then qd6 rec f (qb6 rec c).1 (acc ++ [(qb6 rec c).2.getD N0])
      else ((qb6 rec c).1, none)
    else (c, some acc)
def qcd (rec : K → K × Option N) (c : K) : K × Option N :=
  if (qba c).kind = 2 then ((qd6 rec (rest c + 1) (qbg c) []).1, (qd6 rec (rest c + 1) (qbg c) []).2.map (qjk c 2))
  else qb6 rec c
def qih (n m : N) : N := .mk 2 n.pos 0 [45, 62] [n, m]
def qb2 : Nat → K → K × Option N
  | 0, c => (c, none)
  | f + 1, c =>
    if (qp c).2 = true then
      if (qcd (qb2 f) (qp c).1).2.isSome = true then
        if (qw (qcd (qb2 f) (qp c).1).1 [45, 62]).2 = true then
          (qdg (qb2 f (qw (qcd (qb2 f) (qp c).1).1 [45, 62]).1).1, (qb2 f (qw (qcd (qb2 f) (qp c).1).1 [45, 62]).1).2.map (qih ((qcd (qb2 f) (qp c).1).2.getD N0)))
        else (qdg (qcd (qb2 f) (qp c).1).1, (qcd (qb2 f) (qp c).1).2)
      else (qdg (qcd (qb2 f) (qp c).1).1, none)
    else ((qp c).1, none)
section
variable {rec : K → K × Option N} (hm : ∀ c, Mon c (rec c).1)
include hm
theorem qdj (c : K) : Mon c (qb6 rec c).1 := by
  unfold qb6
  split
  · exact qcj c
  · split
    · exact qcj c
    · split
      · split
        · have h1 := ((qbb c).trans (qcj _)).trans (hm _)
          split
          · exact (h1.trans (qt _ _)).trans (qb1 _)
          · exact h1.trans (qb1 _)
        · exact qbb c
      · exact qeb c 5
theorem qdi {c : K} (h : (qb6 rec c).2.isSome = true) : rest (qb6 rec c).1 < rest c := by
  unfold qb6 at h ⊢
  split at h
  · rename_i h1; rw [if_pos h1]; have := qbm (c := c) (by omega); simp only; omega
  · rename_i h1
    rw [if_neg h1]
    split at h
    · rename_i h2; rw [if_pos h2]; have := qbm (c := c) (by omega); simp only; omega
    · rename_i h2
      rw [if_neg h2]
      split at h
      · rename_i hk
        rw [if_pos hk]
        split at h
        · rename_i he
          rw [if_pos he]
          have hp := qbm (c := (qp c).1) (by rw [qdo he]; exact qdm hk)
          have h0 := (qbb c).2.1
          have h1 := (hm (qbg (qp c).1)).2.1
          split at h
          · rename_i hr
            rw [if_pos hr]
            have h2 := (qt (rec (qbg (qp c).1)).1 [41]).2.1
            have h3 := (qb1 (qx (rec (qbg (qp c).1)).1 [41]).1).2.1
            simp only; omega
          · cases h
        · cases h
      · cases h
theorem qgc : ∀ (f : Nat) (c : K) (acc : List N), Mon c (qd6 rec f c acc).1
  | 0, c, acc => Mon.refl c
  | f + 1, c, acc => by
    rw [qd6]
    split
    · split
      · exact (qdj hm c).trans (qgc f _ _)
      · exact qdj hm c
    · exact Mon.refl c
theorem ql9 (c : K) : Mon c (qcd rec c).1 := by
  unfold qcd
  split
  · exact (qcj c).trans (qgc hm _ _ _)
  · exact qdj hm c
theorem qqk {c : K} (h : (qcd rec c).2.isSome = true) : rest (qcd rec c).1 < rest c := by
  unfold qcd at h ⊢
  split at h
  · rename_i h1
    rw [if_pos h1]
    have := qbm (c := c) (by omega)
    have := (qgc hm (rest c + 1) (qbg c) []).2.1
    simp only; omega
  · rename_i h1
    rw [if_neg h1]
    exact qdi hm h
end
theorem qcv : ∀ (f : Nat) (c : K), Mon c (qb2 f c).1
  | 0, c => Mon.refl c
  | f + 1, c => by
    have hr := (qbb c).trans (ql9 (qcv f) (qp c).1)
    rw [qb2]
    split
    · split
      · split
        · exact ((hr.trans (q8 _ _)).trans (qcv f _)).trans (qb1 _)
        · exact hr.trans (qb1 _)
      · exact hr.trans (qb1 _)
    · exact qbb c
set_option maxRecDepth 4000

def resP (r : Option N) : AV := .tup [enc (r.getD N0), .bool r.isSome]
attribute [go_sem] resP
theorem q8u (k : Nat) (r : Option N) : (resP r).bd k = true := by simp only [resP, AV.bd, AV.bds, qja, Bool.and_true]
theorem qb7 {P : Program} {f : FuncId} {c c' : K} {L : List Ent} {args : List AV} {r : Option N} {Q : List Ent → VO → Prop} (h : qbz P f (curE c) (curE c') args (resP r)) (ha : AV.bds 1 args = true) (hq : Q (curE c' :: L) (.val (resP r))) : VApp P (curE c :: L) (.fn f [] []) args Q :=
  qbv h (q7 _ _) (q7 _ _) ha (q8u _ _) fun _ => hq
theorem qdf : AV.agg [.int .i64 0, .int .i64 0, .int .i64 0, .str [], .sl 5 []] = enc N0 := by simp [N0, enc, encs]
/-- The tree, or nothing. -/
def qio (n : N) (b : Bool) : Option N := if b = true then some n else none
theorem q5v (n : N) : qio n false = none := rfl
theorem qvb {r : Option N} {b : Bool} (h : r.isSome = true) : qio (r.getD N0) b = if b = true then r else none := by
  cases r with
  | none => cases h
  | some n => rfl
theorem q4h (c : K) (n : N) (b : Bool) : qbz Try.prog 56 (curE c) (curE c) [.ptr 0 0, enc n, .bool b] (resP (qio n b)) := by
  refine qs c0bv 1 (by simp) (by simp) ?_
  repeat' (first | refine qi ?_ | ((first | refine qm ?_ | refine qj ?_ | refine qh ?_ | refine qg ?_ | ((first | refine qe ?_ ?_ | refine qc ?_ ?_) <;> intro hc <;> (try simp only [hc]) <;> (try simp only [qb, qa, decide_eq_true_eq, decide_eq_false_iff_not, Bool.and_eq_true] at hc)) | refine And.intro (by first | assumption | omega | (have := qf (by assumption); omega) | (unfold qo; omega)) ?_ | simp (disch := omega) only [qd] | simp (disch := omega) only [qn]) <;> (try simp only [go_sem, ↓reduceIte, Nat.reduceEqDiff, Nat.reduceAdd, Nat.reduceSub, Nat.reduceMul, Nat.reduceLT, Nat.reduceLeDiff, reduceCtorEq, Int.reduceToNat])))
  all_goals (unfold qio; simp_all [qdf])
theorem qo4 {c : K} {L : List Ent} {n : N} {b : Bool} {Q : List Ent → VO → Prop} (hq : Q (curE c :: L) (.val (resP (qio n b)))) : VApp Try.prog (curE c :: L) (.fn 56 [] []) [.ptr 0 0, enc n, .bool b] Q := qb7 (q4h c n b) (by simp only [AV.bds, AV.bd, qja]; rfl) hq
theorem qqf {c : K} {L : List Ent} {n m : N} {b : Bool} {Q : List Ent → VO → Prop} (hq : Q (curE c :: L) (.val (resP (qio (qih n m) b)))) :
    VApp Try.prog (curE c :: L) (.fn 56 [] []) [.ptr 0 0, .agg [.int .i64 2, .int .i64 n.pos, .int .i64 0, .str [45, 62], .sl 5 [enc n, enc m]], .bool b] Q := by
  have h := qo4 (n := qih n m) hq
  simpa only [qih, enc, encs] using h
theorem qn5 {r : Option N} {g : N → N} : qio (g (r.getD N0)) r.isSome = r.map g := by cases r <;> rfl
theorem qud {r : Option N} {n : N} : qio (qih n (r.getD N0)) r.isSome = r.map (qih n) := qn5
theorem qc1 {c : K} {x : List UInt8} (h : (qw c x).2 = false) : (qw c x).1 = c := by
  unfold qw at *
  split at h
  · cases h
  · rename_i h1; rw [if_neg h1]
theorem qtn (c : K) : qbz Try.prog 81 (curE c) (curE c) [.ptr 0 0] (.bool (begT c)) := by
  refine qs c0bw 1 (by simp) (by simp) ?_
  repeat' (first | refine qi ?_ | ((first | refine qm ?_ | refine qj ?_ | refine qbu ?_ | refine a_Is ?_ | ((first | refine qe ?_ ?_ | refine qc ?_ ?_) <;> intro hc <;> (try simp only [hc]) <;> (try simp only [qb, qa, decide_eq_true_eq, decide_eq_false_iff_not, Bool.and_eq_true] at hc)) | refine And.intro (by first | assumption | omega | (have := qf (by assumption); omega) | (unfold qo; omega)) ?_ | simp (disch := omega) only [qd] | simp (disch := omega) only [qn]) <;> (try simp only [go_sem, ↓reduceIte, Nat.reduceEqDiff, Nat.reduceAdd, Nat.reduceSub, Nat.reduceMul, Nat.reduceLT, Nat.reduceLeDiff, reduceCtorEq, Int.reduceToNat])))
  all_goals (unfold begT; simp_all)
theorem q5n {c : K} {L : List Ent} {Q : List Ent → VO → Prop} (hq : Q (curE c :: L) (.val (.bool (begT c)))) : VApp Try.prog (curE c :: L) (.fn 81 [] []) [.ptr 0 0] Q := qbv (qtn c) (q7 _ _) (q7 _ _) rfl rfl fun _ => hq
theorem qbc {l : List N} (h : l ≠ []) : encs l ≠ [] := by cases l with | nil => exact absurd rfl h | cons _ _ => simp [encs]
def qyw (p : Int) (t : List UInt8) (c : K) (acc : List N) : AF × List Ent :=
  (⟨[(0, .ptr 0 0), (2, .ptr 1 0), (5, .ptr 2 0)], []⟩,
    curE c :: .blk [.int .i64 0, .int .i64 0, .int .i64 0, .str [], .nils] :: .blk [.int .i64 2, .int .i64 p, .int .i64 0, .str t, accV 3 (encs acc)] :: accE 5 (encs acc))
section
variable {rec : K → K × Option N} {b : Nat} (hm : ∀ c, Mon c (rec c).1) (ih : ∀ c, c.good → rest c < b → qbz Try.prog 54 (curE c) (curE (rec c).1) [.ptr 0 0] (resP (rec c).2))
include hm ih
theorem qfu (c : K) (hg : c.good) (hr : rest c ≤ b) : qbz Try.prog 37 (curE c) (curE (qb6 rec c).1) [.ptr 0 0] (resP (qb6 rec c).2) := by
  have g1 : (qp c).1.good := (qbb c).1 hg
  have g2 : (qbg (qp c).1).good := (qcj _).1 g1
  have g3 : (rec (qbg (qp c).1)).1.good := (hm _).1 g2
  have g4 : (qx (rec (qbg (qp c).1)).1 [41]).1.good := (qt _ _).1 g3
  have hrr : isK c [40] = true → (qp c).2 = true → rest (qbg (qp c).1) < b := fun h1 h2 => by
    have := qbm (c := (qp c).1) (by rw [qdo h2]; exact qdm h1)
    have := (qbb c).2.1
    omega
  refine qs c0bx 1 (by simp) (by simp) ?_
  repeat' (first | refine qi ?_ | refine qk ?_ | ((first | refine qm ?_ | refine qj ?_ | refine qh ?_ | refine qg ?_ | refine qbu ?_ | refine a_Is ?_ | refine qmx ?_ | refine qfp ?_ | refine qgq hg.ok ?_ | refine qgq g1.ok ?_ | refine qb7 (ih _ g2 (hrr (by assumption) (by assumption))) rfl ?_ | refine qb0 g3.ok ?_ | refine qd3 g4.2.2 ?_ | refine qd3 g3.2.2 ?_ | refine qo4 ?_ | ((first | refine qe ?_ ?_ | refine qc ?_ ?_) <;> intro hc <;> (try simp only [hc]) <;> (try simp only [qb, qa, decide_eq_true_eq, decide_eq_false_iff_not, Bool.and_eq_true] at hc)) | refine And.intro (by first | assumption | omega | (have := qf (by assumption); omega) | (unfold qo; omega)) ?_ | simp (disch := omega) only [qd] | simp (disch := omega) only [qn]) <;> (try simp only [go_sem, ↓reduceIte, Nat.reduceEqDiff, Nat.reduceAdd, Nat.reduceSub, Nat.reduceMul, Nat.reduceLT, Nat.reduceLeDiff, reduceCtorEq, Int.reduceToNat])))
  all_goals (try simp only [qvb (r := (rec (qbg (qp c).1)).2) (by assumption)])
  all_goals (try simp only [q5v])
  all_goals (unfold qb6 qjk; simp only [*, qdf, Int.reduceEq, if_true, if_false, reduceIte, Bool.false_eq_true, Option.getD_none, Option.getD_some, Option.isSome_none, Option.isSome_some, and_self, true_and, and_true]; try rfl)
theorem qbj7 (c : K) (hg : c.good) (hr : rest c ≤ b) : qbz Try.prog 76 (curE c) (curE (qcd rec c).1) [.ptr 0 0] (resP (qcd rec c).2) := by
  refine qs c0by 1 (by simp) (by simp) ?_
  by_cases hk : (qba c).kind = 2
  · have g1 : (qbg c).good := (qcj _).1 hg
    have hpa : qcd rec c = ((qd6 rec (rest c + 1) (qbg c) []).1, (qd6 rec (rest c + 1) (qbg c) []).2.map (qjk c 2)) := by rw [qcd, if_pos hk]
    rw [hpa]
    clear hpa
    generalize htg : qd6 rec (rest c + 1) (qbg c) [] = tg
    have hmt : Mon (qbg c) tg.1 := htg ▸ qgc hm _ _ _
    have hrn := qbm (c := c) (by omega)
    repeat' (first | refine qi ?_ | refine qk ?_ | ((first | refine qm ?_ | refine qj ?_ | refine qr ?_ | refine qh ?_ | refine qg ?_) <;> (try simp (disch := first | omega | (simp only [List.length_set, List.length_append, List.length_cons, List.length_nil]; done) | (simp only [List.length_set, List.length_append, List.length_cons, List.length_nil]; omega)) only [hk, Int.reduceEq, go_sem, ↓reduceIte, Nat.reduceEqDiff, Nat.reduceAdd, Nat.reduceSub, Nat.reduceMul, Nat.reduceLT, Nat.reduceLeDiff, reduceCtorEq, Int.reduceToNat])) | ((first | ((first | refine qe ?_ ?_ | refine qc ?_ ?_) <;> intro hc <;> (try simp only [hc]) <;> (try simp only [qb, qa, decide_eq_true_eq, decide_eq_false_iff_not, Bool.and_eq_true] at hc)) | refine And.intro (by first | assumption | omega | (have := qf (by assumption); omega) | (unfold qo; omega)) ?_ | simp (disch := omega) only [qd] | simp (disch := omega) only [qn] | refine qbu ?_ | refine qgq hg.ok ?_) <;> (try simp only [go_sem, ↓reduceIte, Nat.reduceEqDiff, Nat.reduceAdd, Nat.reduceSub, Nat.reduceMul, Nat.reduceLT, Nat.reduceLeDiff, reduceCtorEq, Int.reduceToNat])))
    refine qcx (S := Nat × K × List N) (fun x => x.2.1.good ∧ rest x.2.1 ≤ b ∧ qd6 rec x.1 x.2.1 x.2.2 = tg ∧ rest x.2.1 < x.1 ∧ x.2.2.length + rest x.2.1 ≤ 1048577)
      (fun x => qyw (qba c).pos (qba c).text x.2.1 x.2.2) (fun x => rest x.2.1 + 1) ?_ ?_
    · refine qb5 (rest c + 1, qbg c, []) [0, 1, 3] ⟨g1, by simp only; omega, htg, by simp only; omega, ?_⟩ rfl (by simp) ?_ ?_ ?_
      · have h9 := g1.rest
        unfold rest
        simp only [List.length_nil]
        omega
      all_goals simp only [qyw, encs, qbh, qbj]
      all_goals simp only [go_sem, ↓reduceIte, Nat.reduceEqDiff, Nat.reduceAdd, Nat.reduceSub, Nat.reduceMul, Nat.reduceLT, Nat.reduceLeDiff, reduceCtorEq, Int.reduceToNat]
    · rintro ⟨fu, d, acc⟩ ⟨i1, i2, i3, i4, i5⟩
      simp only at i1 i2 i3 i4 i5
      unfold qyw
      obtain ⟨fu, rfl⟩ : ∃ k, fu = k + 1 := ⟨fu - 1, by omega⟩
      rw [qd6] at i3
      have hcap : qo (acc.length + 1) 64 := capN (by omega)
      have j1 : (qb6 rec d).1.good := (qdj hm d).1 i1
      have j2 : rest (qb6 rec d).1 ≤ rest d := (qdj hm d).2.1
      by_cases h0 : acc = []
      · subst h0
        simp only [encs, qbh, qbj]
        repeat' (first | refine qi ?_ | refine qk ?_ | ((first | refine qm ?_ | refine qj ?_ | refine qr ?_ | refine qh ?_ | refine qg ?_ | refine q5n ?_ | refine qb7 (qfu hm ih _ i1 i2) rfl ?_ | ((first | refine qe ?_ ?_ | refine qc ?_ ?_) <;> intro hc <;> (try simp only [hc]) <;> (try simp only [qb, qa, decide_eq_true_eq, decide_eq_false_iff_not, Bool.and_eq_true] at hc)) | refine And.intro (by first | assumption | omega | (have := qf (by assumption); omega) | (unfold qo; omega)) ?_ | simp (disch := omega) only [qd] | simp (disch := omega) only [qn]) <;> (try simp only [go_sem, ↓reduceIte, Nat.reduceEqDiff, Nat.reduceAdd, Nat.reduceSub, Nat.reduceMul, Nat.reduceLT, Nat.reduceLeDiff, reduceCtorEq, Int.reduceToNat])))
        · have hb : begT d = true := by assumption
          have hs : (qb6 rec d).2.isSome = false := by assumption
          rw [if_pos hb, if_neg (by rw [hs]; simp)] at i3
          subst i3
          exact ⟨rfl, by rw [qdf]; rfl⟩
        · have hb : begT d = true := by assumption
          have hs : (qb6 rec d).2.isSome = true := by assumption
          rw [if_pos hb, if_pos hs] at i3
          have hlt := qdi hm hs
          refine qb5 (fu, (qb6 rec d).1, [] ++ [(qb6 rec d).2.getD N0]) [0, 1, 2, 4] ⟨⟨j1, by simp only; omega, i3, by simp only; omega, ?_⟩, by simp only; omega⟩ rfl (by simp) ?_ ?_ ?_
          · simp only [List.length_append, List.length_cons, List.length_nil]; omega
          all_goals simp only [qyw, ← qq, qee, qed, List.nil_append, encs, qfe, qfl]
          all_goals simp only [go_sem, ↓reduceIte, Nat.reduceEqDiff, Nat.reduceAdd, Nat.reduceSub, Nat.reduceMul, Nat.reduceLT, Nat.reduceLeDiff, reduceCtorEq, Int.reduceToNat]
        · have hb : begT d = false := by assumption
          rw [if_neg (by rw [hb]; simp)] at i3
          subst i3
          simp only [Option.map_some, Option.getD_some, Option.isSome_some, enc, encs, qjk, and_self]
      · have hne := qbc h0
        simp only [qbo hne, qbp hne, qbd]
        repeat' (first | refine qi ?_ | refine qk ?_ | ((first | refine qm ?_ | refine qj ?_ | refine qr ?_ | refine qh ?_ | refine qg ?_ | refine q5n ?_ | refine qb7 (qfu hm ih _ i1 i2) rfl ?_ | ((first | refine qe ?_ ?_ | refine qc ?_ ?_) <;> intro hc <;> (try simp only [hc]) <;> (try simp only [qb, qa, decide_eq_true_eq, decide_eq_false_iff_not, Bool.and_eq_true] at hc)) | refine And.intro (by first | assumption | omega | (have := qf (by assumption); omega) | (unfold qo; omega)) ?_ | simp (disch := omega) only [qd] | simp (disch := omega) only [qn]) <;> (try simp only [go_sem, ↓reduceIte, Nat.reduceEqDiff, Nat.reduceAdd, Nat.reduceSub, Nat.reduceMul, Nat.reduceLT, Nat.reduceLeDiff, reduceCtorEq, Int.reduceToNat])))
        · have hb : begT d = true := by assumption
          have hs : (qb6 rec d).2.isSome = false := by assumption
          rw [if_pos hb, if_neg (by rw [hs]; simp)] at i3
          subst i3
          exact ⟨rfl, by rw [qdf]; rfl⟩
        · have hb : begT d = true := by assumption
          have hs : (qb6 rec d).2.isSome = true := by assumption
          rw [if_pos hb, if_pos hs] at i3
          have hlt := qdi hm hs
          refine qb5 (fu, (qb6 rec d).1, acc ++ [(qb6 rec d).2.getD N0]) [0, 1, 2, 5] ⟨⟨j1, by simp only; omega, i3, by simp only; omega, ?_⟩, by simp only; omega⟩ rfl (by simp) ?_ ?_ ?_
          · simp only [List.length_append, List.length_cons, List.length_nil]; omega
          all_goals simp only [qyw, ← qq, qee, qed, List.nil_append, encs, qfe, qfl]
          all_goals simp only [go_sem, ↓reduceIte, Nat.reduceEqDiff, Nat.reduceAdd, Nat.reduceSub, Nat.reduceMul, Nat.reduceLT, Nat.reduceLeDiff, reduceCtorEq, Int.reduceToNat]
          rw [qq, q6, qbn]; exact ⟨rfl, rfl⟩
        · have hb : begT d = false := by assumption
          rw [if_neg (by rw [hb]; simp)] at i3
          subst i3
          simp only [Option.map_some, Option.getD_some, Option.isSome_some, enc, encs, qjk, and_self]
  · repeat' (first | refine qi ?_ | refine qk ?_ | ((first | refine qm ?_ | refine qj ?_ | refine qr ?_ | refine qh ?_ | refine qg ?_) <;> (try simp (disch := first | omega | (simp only [List.length_set, List.length_append, List.length_cons, List.length_nil]; done) | (simp only [List.length_set, List.length_append, List.length_cons, List.length_nil]; omega)) only [hk, go_sem, ↓reduceIte, Nat.reduceEqDiff, Nat.reduceAdd, Nat.reduceSub, Nat.reduceMul, Nat.reduceLT, Nat.reduceLeDiff, reduceCtorEq, Int.reduceToNat])) | ((first | ((first | refine qe ?_ ?_ | refine qc ?_ ?_) <;> intro hc <;> (try simp only [hc]) <;> (try simp only [qb, qa, decide_eq_true_eq, decide_eq_false_iff_not, Bool.and_eq_true] at hc)) | refine And.intro (by first | assumption | omega | (have := qf (by assumption); omega) | (unfold qo; omega)) ?_ | simp (disch := omega) only [qd] | simp (disch := omega) only [qn] | refine qbu ?_ | refine qb7 (qfu hm ih c hg hr) rfl ?_) <;> (try simp only [go_sem, ↓reduceIte, Nat.reduceEqDiff, Nat.reduceAdd, Nat.reduceSub, Nat.reduceMul, Nat.reduceLT, Nat.reduceLeDiff, reduceCtorEq, Int.reduceToNat])))
    rw [qcd, if_neg hk]; exact ⟨rfl, rfl⟩
end
theorem qq5 {f : Nat} (ih : ∀ c, c.good → rest c < f → qbz Try.prog 54 (curE c) (curE (qb2 f c).1) [.ptr 0 0] (resP (qb2 f c).2)) (c : K) (hg : c.good) (hr : rest c < f + 1) :
    qbz Try.prog 54 (curE c) (curE (qb2 (f + 1) c).1) [.ptr 0 0] (resP (qb2 (f + 1) c).2) := by
  have hm := qcv f
  have g1 : (qp c).1.good := (qbb c).1 hg
  have hr1 : rest (qp c).1 ≤ f := by have := (qbb c).2.1; omega
  have hrow := qbj7 hm ih _ g1 hr1
  have mrow := ql9 hm (qp c).1
  have lrow := qqk hm (c := (qp c).1)
  have hpa : qb2 (f + 1) c = if (qp c).2 = true then
      if (qcd (qb2 f) (qp c).1).2.isSome = true then
        if (qw (qcd (qb2 f) (qp c).1).1 [45, 62]).2 = true then
          (qdg (qb2 f (qw (qcd (qb2 f) (qp c).1).1 [45, 62]).1).1, (qb2 f (qw (qcd (qb2 f) (qp c).1).1 [45, 62]).1).2.map (qih ((qcd (qb2 f) (qp c).1).2.getD N0)))
        else (qdg (qcd (qb2 f) (qp c).1).1, (qcd (qb2 f) (qp c).1).2)
      else (qdg (qcd (qb2 f) (qp c).1).1, none)
    else ((qp c).1, none) := by rw [qb2]
  rw [hpa]
  clear hpa
  generalize qcd (qb2 f) (qp c).1 = r at *
  have g2 : r.1.good := mrow.1 g1
  have g3 : (qw r.1 [45, 62]).1.good := (q8 _ _).1 g2
  have g4 : (qb2 f (qw r.1 [45, 62]).1).1.good := (hm _).1 g3
  have hlt : r.2.isSome = true → rest (qw r.1 [45, 62]).1 < f := fun h => by
    have := lrow h
    have := (q8 r.1 [45, 62]).2.1
    omega
  refine qs c0bz 1 (by simp) (by simp) ?_
  repeat' (first | refine qi ?_ | ((first | refine qm ?_ | refine qj ?_ | refine qh ?_ | refine qg ?_ | refine qfp ?_ | refine qb7 hrow rfl ?_ | refine qdh g2.ok ?_ | refine qb7 (ih _ g3 (hlt (by assumption))) rfl ?_ | refine qd3 g4.2.2 ?_ | refine qd3 g3.2.2 ?_ | refine qd3 g2.2.2 ?_ | refine qo4 ?_ | refine qqf ?_ | ((first | refine qe ?_ ?_ | refine qc ?_ ?_) <;> intro hc <;> (try simp only [hc]) <;> (try simp only [qb, qa, decide_eq_true_eq, decide_eq_false_iff_not, Bool.and_eq_true] at hc)) | refine And.intro (by first | assumption | omega | (have := qf (by assumption); omega) | (unfold qo; omega)) ?_ | simp (disch := omega) only [qd] | simp (disch := omega) only [qn]) <;> (try simp only [go_sem, ↓reduceIte, Nat.reduceEqDiff, Nat.reduceAdd, Nat.reduceSub, Nat.reduceMul, Nat.reduceLT, Nat.reduceLeDiff, reduceCtorEq, Int.reduceToNat])))
  all_goals (try simp only [qc1 (c := r.1) (by assumption)])
  all_goals (try simp only [qvb (r := r.2) (by assumption)])
  all_goals (try simp only [q5v, qud])
  all_goals (simp only [*, qdf, if_true, if_false, reduceIte, Bool.false_eq_true, Option.getD_none, Option.getD_some, Option.isSome_none, Option.isSome_some, and_self, true_and, and_true]; try rfl)
theorem qpz (f : Nat) : ∀ c : K, c.good → rest c < f → qbz Try.prog 54 (curE c) (curE (qb2 f c).1) [.ptr 0 0] (resP (qb2 f c).2) := by
  induction f with
  | zero => exact fun c _ h => absurd h (by omega)
  | succ f ih => exact qq5 ih
end Go.Proofs.Ytfjbmjplnmaclaa
