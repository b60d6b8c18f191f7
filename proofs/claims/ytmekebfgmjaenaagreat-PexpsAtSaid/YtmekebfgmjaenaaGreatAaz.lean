/- Texts of this proof, joined. -/
import Derived.Test.YtmekebfgmjaenaaGreatAaw
import Derived.Test.YtmekebfgmjaenaaGreatAay

/- the cursor: in other places; texts; trees that are whole -/
namespace Go.Proofs.YtmekebfgmjaenaaGreat
open Go Go.RowKit Go.V
set_option linter.unusedVariables false
set_option linter.unusedSimpArgs false

section
variable {P : Program} {f : FuncId} {e e' : Ent} {L : List Ent} {args0 args : List AV} {r : AV} {Q : List Ent → VO → Prop}
/-- The call's entry lies at place k. -/
theorem qvk (k : Nat) (h : qco P f e e' args0 r) (hk : L[k]? = some e) (hb : e.bd 0 = true) (hb' : e'.bd 0 = true) (ha : AV.bds 1 args0 = true) (hr : r.bd 0 = true) (hs : AV.rens (sg [k]) args0 = args) (hq : r.wf → Q (L.set k e') (.val r)) :
    VApp P L (.fn f [] []) args Q :=
  qha (first := []) (caps := []) (by
    simp only [List.nil_append, List.append_nil]
    rw [← hs]
    have hlt : k < L.length := (List.getElem?_eq_some_iff.1 hk).1
    refine qgf (H0 := [e]) [k] (h.mono' (Q' := fun H' o => (H' = [e'] ∧ o = .val r) ∧ r.wf) fun H' o hw ho => ⟨ho, by have := ho.2; subst this; exact hw⟩) (by simp) (by simpa using hlt) rfl ?_ ha ?_
    · intro j e2 hj
      obtain rfl : j = 0 := by have := (List.getElem?_eq_some_iff.1 hj).1; simp at this; omega
      simp only [List.getElem?_cons_zero, Option.some.injEq] at hj
      subst hj
      exact .inr ⟨Ent.bd_le (Nat.zero_le _) _ hb, by rw [Ent.ren_same (m := 0) (fun i hi => by omega) _ hb]; exact hk⟩
    · rintro H1 o ⟨⟨rfl, rfl⟩, hw⟩
      have h1 : e'.ren (sg' [k] L.length) = e' := Ent.ren_same (m := 0) (fun i hi => by omega) _ hb'
      have h2 : r.ren (sg' [k] L.length) = r := ren_same (m := 0) (fun i hi => by omega) _ hr
      simp only [List.length_cons, List.length_nil, List.take_succ_cons, List.take_zero, List.map_cons, List.map_nil, qcm, h1, VO.ren, h2, List.drop_succ_cons, List.drop_nil, List.append_nil]
      exact hq hw)
/-- A call that makes an entry. -/
theorem qj1 (h : VCalls P f [] args fun H' o => H' = [e] ∧ o = .val (.ptr 0 0)) (hb : e.bd 0 = true) (ha : AV.bds 0 args = true) (hq : Q (L ++ [e]) (.val (.ptr L.length 0))) : VApp P L (.fn f [] []) args Q :=
  qha (first := []) (caps := []) (by
    simp only [List.nil_append, List.append_nil]
    have hs : AV.rens (sg []) args = args := qck (m := 0) (fun i hi => by omega) _ ha
    rw [← hs]
    refine qgf (H0 := []) [] h (by simp) (by simp) rfl (fun j e2 hj => by simp at hj) ha ?_
    rintro H1 o ⟨rfl, rfl⟩
    have h1 : e.ren (sg' [] L.length) = e := Ent.ren_same (m := 0) (fun i hi => by omega) _ hb
    simp only [List.length_nil, List.take_zero, List.map_nil, qcm, List.drop_zero, List.map_cons, h1, VO.ren, AV.ren, sg', Nat.not_lt_zero, if_false, Nat.sub_zero, Nat.add_zero]
    exact hq)
end
theorem qrh (s : List UInt8) : (lexV s).1.length ≤ 1048577 ∧ (lexV s).1.length ≤ s.length + 1 := by
  by_cases h : 1048576 < (s.length : Int)
  · rw [qwl h]; simp
  · have hll : (lexG s (qc4 s)).1.length ≤ s.length := by have := qqs (s := s) (s.length - qc4 s) (qc4 s); unfold lexG; omega
    by_cases he : (lexG s (qc4 s)).2.2 = 0
    · rw [q2n h he]; simp only [List.length_append, List.length_cons, List.length_nil]; omega
    · rw [qvf h he]; simp
theorem qx9 {n : N} (h : sz n ≤ 1000000) : (qfk (fun (k : Int) l _ => (if l > k then l else k, true)) n 1 0).1 = depR n := by
  show (qfk dpF n 1 0).1 = depR n
  rw [qbds n 1 0 (by omega) (by omega), qbbb n (by omega)]
  have := q4b n
  simp only; omega

/-! The cursor: it has gone on, if it has gone; a failure stays. -/
def K.good (c : K) : Prop := c.at' ≤ c.l.length ∧ c.l.length ≤ 1048577 ∧ c.nest ≤ 200
def rest (c : K) : Nat := c.l.length - c.at'
theorem K.good.ok {c : K} (h : c.good) : c.ok := ⟨h.1, Nat.le_trans h.2.1 (by unfold maxLen; omega)⟩
theorem K.good.rest {c : K} (h : c.good) : c.l.length - c.at' ≤ 1048577 := by have := h.2.1; omega
theorem capN {n : Nat} (h : n ≤ 1048580) : qq n 64 := by unfold qq; omega
def Mon (c c' : K) : Prop := (c.good → c'.good) ∧ rest c' ≤ rest c ∧ (c.err ≠ 0 → c'.err ≠ 0) ∧ c'.l = c.l
theorem Mon.refl (c : K) : Mon c c := ⟨id, Nat.le_refl _, id, rfl⟩
theorem Mon.trans {a b c : K} (h : Mon a b) (k : Mon b c) : Mon a c := ⟨fun g => k.1 (h.1 g), Nat.le_trans k.2.1 h.2.1, fun e => k.2.2.1 (h.2.2.1 e), k.2.2.2.trans h.2.2.2⟩
def em (c : K) : Nat := if c.err = 0 then rest c + 1 else 0
theorem Mon.em {c c' : K} (h : Mon c c') : em c' ≤ em c := by
  unfold Go.Proofs.YtmekebfgmjaenaaGreat.em
  have := h.2.1
  split
  · split
    · omega
    · rename_i h1 h2; exact absurd h1 (h.2.2.1 h2)
  · omega
theorem qid (c : K) : em c ≤ rest c + 1 := by unfold em; split <;> omega
theorem qbvo {c : K} (h : c.err ≠ 0) : em c = 0 := if_neg h
theorem qbat {c : K} (h : c.err = 0) : em c = rest c + 1 := if_pos h
theorem qg5 (c : K) {e : Int} : (qfc c e).err ≠ 0 := by
  unfold qfc
  split
  · simp only; split
    · simp
    · assumption
  · assumption
theorem qbt (c : K) : Mon c (q8 c) := by
  unfold q8
  split
  · split
    · exact ⟨fun h => ⟨by simp only; omega, h.2⟩, by unfold rest; simp only; omega, id, rfl⟩
    · exact Mon.refl c
  · exact Mon.refl c
theorem qfa (c : K) (e : Int) : Mon c (qfc c e) := by
  refine ⟨?_, ?_, fun _ => qg5 c, ?_⟩ <;> unfold qfc <;> split <;> first | exact id | exact Nat.le_refl _ | rfl
theorem qy (c : K) : Mon c (qh c).1 := by
  unfold qh
  split
  · split
    · rename_i h1; exact ⟨fun h => ⟨h.1, h.2.1, by simp only; omega⟩, Nat.le_refl _, id, rfl⟩
    · exact qfa c 2
  · exact Mon.refl c
theorem qbv (c : K) : Mon c (qcg c) := by
  unfold qcg
  split
  · split
    · exact ⟨fun h => ⟨h.1, h.2.1, by have := h.2.2; simp only; omega⟩, Nat.le_refl _, id, rfl⟩
    · exact Mon.refl c
  · exact Mon.refl c
theorem qbb (c : K) (x : List UInt8) : Mon c (qr c x).1 := by
  unfold qr
  split
  · exact qbt c
  · exact Mon.refl c
theorem qp (c : K) (x : List UInt8) : Mon c (qu c x).1 := by
  unfold qu
  split
  · exact qbt c
  · exact qfa c 5
theorem qd0 {c : K} (h : (qbc c).kind ≠ 0) : c.err = 0 ∧ c.at' < c.l.length := by
  unfold qbc at h
  split at h
  · rename_i h1
    split at h
    · rename_i h2; exact ⟨h1, h2⟩
    · exact absurd rfl h
  · exact absurd rfl h
theorem qbj {c : K} (h : (qbc c).kind ≠ 0) : rest (q8 c) + 1 = rest c := by
  obtain ⟨h1, h2⟩ := qd0 h
  rw [qq5 h1 (by omega)]
  unfold rest; simp only; omega
theorem qdn {c : K} {x : List UInt8} (h : isK c x = true) : (qbc c).kind ≠ 0 := by
  simp only [isK, qh3, Bool.and_eq_true, Bool.or_eq_true, decide_eq_true_eq] at h
  omega
theorem qqr {c : K} {x : List UInt8} (h : isK c x = true) : c.err = 0 := by
  simp only [isK, Bool.and_eq_true, decide_eq_true_eq] at h
  exact h.1
theorem qr0 {c : K} (h : (qh c).2 = true) : c.err = 0 ∧ (qh c).1.err = 0 ∧ (qh c).1 = { c with nest := c.nest + 1 } := by
  unfold qh at h ⊢
  split at h
  · rename_i h1
    split at h
    · rename_i h2; rw [if_pos h1, if_pos h2]; exact ⟨h1, h1, rfl⟩
    · cases h
  · cases h
theorem qeg {c : K} (h : (qh c).2 = true) : qbc (qh c).1 = qbc c := by rw [(qr0 h).2.2]; rfl
theorem qly {c : K} {x : List UInt8} (h : (qh c).2 = true) : isK (qh c).1 x = isK c x := by rw [(qr0 h).2.2]; rfl
theorem qf1 {c : K} (h : (qh c).2 = false) : (qh c).1.err ≠ 0 := by
  unfold qh at h ⊢
  split at h
  · rename_i h1
    split at h
    · cases h
    · rename_i h2; rw [if_pos h1, if_neg h2]; exact qg5 c
  · rename_i h1; rw [if_neg h1]; exact h1
theorem qd4 {c : K} {x : List UInt8} (h : (qu c x).2 = false) : (qu c x).1.err ≠ 0 := by
  unfold qu at h ⊢
  split at h
  · cases h
  · rename_i h1; rw [if_neg h1]; exact qg5 c
theorem qcl {c : K} (h : c.err ≠ 0) : qcg c = c := if_neg h
theorem qt8 {c : K} {x : List UInt8} (h : c.err ≠ 0) : isK c x = false := by
  simp only [isK, decide_eq_false h, Bool.false_and]
theorem qb6 {c : K} {x : List UInt8} (h : c.err ≠ 0) : qu c x = (c, false) := by
  rw [qu, if_neg (by rw [qt8 h]; simp), qfv h]
theorem qfp {c : K} {x : List UInt8} (h : c.err ≠ 0) : qr c x = (c, false) := qtv (qt8 h)
theorem qlz {c : K} {x : List UInt8} (h : isK c x = true) : qu c x = (q8 c, true) := if_pos h

/-! Types: the program. -/
def begT (c : K) : Bool := decide ((qbc c).kind = 1) || decide ((qbc c).kind = 2) || isK c [40]
def qh4 (c : K) (k : Int) (ks : List N) : N := .mk k (qbc c).pos 0 (qbc c).text ks
def qb5 (rec : K → K × Option N) (c : K) : K × Option N :=
  if (qbc c).kind = 1 then (q8 c, some (qh4 c 1 []))
  else if (qbc c).kind = 2 then (q8 c, some (qh4 c 2 []))
  else if isK c [40] = true then
    if (qh c).2 = true then
      if (rec (q8 (qh c).1)).2.isSome = true then
        (qcg (qu (rec (q8 (qh c).1)).1 [41]).1, if (qu (rec (q8 (qh c).1)).1 [41]).2 = true then (rec (q8 (qh c).1)).2 else none)
      else (qcg (rec (q8 (qh c).1)).1, none)
    else ((qh c).1, none)
  else (qfc c 5, none)
def qd9 (rec : K → K × Option N) : Nat → K → List N → K × Option (List N)
  | 0, c, acc => (c, none)
  | f + 1, c, acc =>
    if begT c = true then
      if (qb5 rec c).2.isSome = true then qd9 rec f (qb5 rec c).1 (acc ++ [(qb5 rec c).2.getD N0])
      else ((qb5 rec c).1, none)
    else (c, some acc)
def qcf (rec : K → K × Option N) (c : K) : K × Option N :=
  if (qbc c).kind = 2 then ((qd9 rec (rest c + 1) (q8 c) []).1, (qd9 rec (rest c + 1) (q8 c) []).2.map (qh4 c 2))
  else qb5 rec c
def qh1 (n m : N) : N := .mk 2 n.pos 0 [45, 62] [n, m]
def qcb : Nat → K → K × Option N
  | 0, c => (c, none)
  | f + 1, c =>
    if (qh c).2 = true then
      if (qcf (qcb f) (qh c).1).2.isSome = true then
        if (qr (qcf (qcb f) (qh c).1).1 [45, 62]).2 = true then
          (qcg (qcb f (qr (qcf (qcb f) (qh c).1).1 [45, 62]).1).1, (qcb f (qr (qcf (qcb f) (qh c).1).1 [45, 62]).1).2.map (qh1 ((qcf (qcb f) (qh c).1).2.getD N0)))
        else (qcg (qcf (qcb f) (qh c).1).1, (qcf (qcb f) (qh c).1).2)
      else (qcg (qcf (qcb f) (qh c).1).1, none)
    else ((qh c).1, none)
section
variable {rec : K → K × Option N} (hm : ∀ c, Mon c (rec c).1)
include hm
theorem qfq (c : K) : Mon c (qb5 rec c).1 := by
  unfold qb5
  split
  · exact qbt c
  · split
    · exact qbt c
    · split
      · split
        · have h1 := ((qy c).trans (qbt _)).trans (hm _)
          split
          · exact (h1.trans (qp _ _)).trans (qbv _)
          · exact h1.trans (qbv _)
        · exact qy c
      · exact qfa c 5
theorem qfw {c : K} (h : (qb5 rec c).2.isSome = true) : rest (qb5 rec c).1 < rest c := by
  unfold qb5 at h ⊢
  split at h
  · rename_i h1; rw [if_pos h1]; have := qbj (c := c) (by omega); simp only; omega
  · rename_i h1
    rw [if_neg h1]
    split at h
    · rename_i h2; rw [if_pos h2]; have := qbj (c := c) (by omega); simp only; omega
    · rename_i h2
      rw [if_neg h2]
      split at h
      · rename_i hk
        rw [if_pos hk]
        split at h
        · rename_i he
          rw [if_pos he]
          have hp := qbj (c := (qh c).1) (by rw [qeg he]; exact qdn hk)
          have h0 := (qy c).2.1
          have h1 := (hm (q8 (qh c).1)).2.1
          split at h
          · rename_i hr
            rw [if_pos hr]
            have h2 := (qp (rec (q8 (qh c).1)).1 [41]).2.1
            have h3 := (qbv (qu (rec (q8 (qh c).1)).1 [41]).1).2.1
            simp only; omega
          · cases h
        · cases h
      · cases h
theorem qhy : ∀ (f : Nat) (c : K) (acc : List N), Mon c (qd9 rec f c acc).1
  | 0, c, acc => Mon.refl c
  | f + 1, c, acc => by
    rw [qd9]
    split
    · split
      · exact (qfq hm c).trans (qhy f _ _)
      · exact qfq hm c
    · exact Mon.refl c
theorem qoi (c : K) : Mon c (qcf rec c).1 := by
  unfold qcf
  split
  · exact (qbt c).trans (qhy hm _ _ _)
  · exact qfq hm c
theorem quy {c : K} (h : (qcf rec c).2.isSome = true) : rest (qcf rec c).1 < rest c := by
  unfold qcf at h ⊢
  split at h
  · rename_i h1
    rw [if_pos h1]
    have := qbj (c := c) (by omega)
    have := (qhy hm (rest c + 1) (q8 c) []).2.1
    simp only; omega
  · rename_i h1
    rw [if_neg h1]
    exact qfw hm h
end
theorem qgt : ∀ (f : Nat) (c : K), Mon c (qcb f c).1
  | 0, c => Mon.refl c
  | f + 1, c => by
    have hr := (qy c).trans (qoi (qgt f) (qh c).1)
    rw [qcb]
    split
    · split
      · split
        · exact ((hr.trans (qbb _ _)).trans (qgt f _)).trans (qbv _)
        · exact hr.trans (qbv _)
      · exact hr.trans (qbv _)
    · exact qy c
theorem q1q {c : K} (h : begT c = true) : c.err = 0 := by
  simp only [begT, Bool.or_eq_true, decide_eq_true_eq] at h
  rcases h with (h | h) | h
  · exact (qd0 (by omega)).1
  · exact (qd0 (by omega)).1
  · exact qqr h
theorem q22 {c : K} (h : c.err ≠ 0) : begT c = false := by
  cases hb : begT c with
  | false => rfl
  | true => exact absurd (q1q hb) h
set_option maxRecDepth 4000

def resP (r : Option N) : AV := .tup [enc (r.getD N0), .bool r.isSome]
attribute [go_sem] resP
theorem qzm (k : Nat) (r : Option N) : (resP r).bd k = true := by simp only [resP, AV.bd, AV.bds, qms, Bool.and_true]
theorem qdh {P : Program} {f : FuncId} {c c' : K} {L : List Ent} {args : List AV} {r : Option N} {Q : List Ent → VO → Prop} (h : qco P f (curE c) (curE c') args (resP r)) (ha : AV.bds 1 args = true) (hq : Q (curE c' :: L) (.val (resP r))) : VApp P (curE c :: L) (.fn f [] []) args Q :=
  qb2 h (qbh _ _) (qbh _ _) ha (qzm _ _) fun _ => hq
theorem qd7 : AV.agg [.int .i64 0, .int .i64 0, .int .i64 0, .str [], .sl 5 []] = enc N0 := by simp [N0, enc, encs]
/-- The tree, or nothing. -/
def qkz (n : N) (b : Bool) : Option N := if b = true then some n else none
theorem q94 (n : N) : qkz n false = none := rfl
theorem qzd {r : Option N} {b : Bool} (h : r.isSome = true) : qkz (r.getD N0) b = if b = true then r else none := by
  cases r with
  | none => cases h
  | some n => rfl
theorem q47 (c : K) (n : N) (b : Bool) : qco Tryz.prog 48 (curE c) (curE c) [.ptr 0 0, enc n, .bool b] (resP (qkz n b)) := by
  refine qbd c0bu 1 (by simp) (by simp) ?_
  repeat' (first | refine ql ?_ | ((first | refine qn ?_ | refine qm ?_ | refine qj ?_ | refine qi ?_); simp only [go_sem, ↓reduceIte, Nat.reduceEqDiff, Nat.reduceAdd, Nat.reduceSub, Nat.reduceMul, Nat.reduceLT, Nat.reduceLeDiff, reduceCtorEq, Int.reduceToNat]) | ((first | refine qf ?_ ?_ | refine qd ?_ ?_) <;> intro hc <;> simp only [hc, go_sem, ↓reduceIte, Nat.reduceEqDiff, Nat.reduceAdd, Nat.reduceSub, Nat.reduceMul, Nat.reduceLT, Nat.reduceLeDiff, reduceCtorEq, Int.reduceToNat] <;> (try simp only [qb, qa, decide_eq_true_eq, decide_eq_false_iff_not, Bool.and_eq_true] at hc)) | refine And.intro (by first | assumption | omega | (have := qg (by assumption); omega) | (unfold qq; omega)) ?_ | fail)
  all_goals (unfold qkz; simp_all [qd7])
theorem qte {c : K} {L : List Ent} {n : N} {b : Bool} {Q : List Ent → VO → Prop} (hq : Q (curE c :: L) (.val (resP (qkz n b)))) : VApp Tryz.prog (curE c :: L) (.fn 48 [] []) [.ptr 0 0, enc n, .bool b] Q := qdh (q47 c n b) (by simp only [AV.bds, AV.bd, qms]; rfl) hq
theorem qts {c : K} {L : List Ent} {n m : N} {b : Bool} {Q : List Ent → VO → Prop} (hq : Q (curE c :: L) (.val (resP (qkz (qh1 n m) b)))) :
    VApp Tryz.prog (curE c :: L) (.fn 48 [] []) [.ptr 0 0, .agg [.int .i64 2, .int .i64 n.pos, .int .i64 0, .str [45, 62], .sl 5 [enc n, enc m]], .bool b] Q := by
  have h := qte (n := qh1 n m) hq
  simpa only [qh1, enc, encs] using h
theorem qqt {r : Option N} {g : N → N} : qkz (g (r.getD N0)) r.isSome = r.map g := by cases r <;> rfl
theorem qyl {r : Option N} {n : N} : qkz (qh1 n (r.getD N0)) r.isSome = r.map (qh1 n) := qqt
theorem qdj {c : K} {x : List UInt8} (h : (qr c x).2 = false) : (qr c x).1 = c := by
  unfold qr at *
  split at h
  · cases h
  · rename_i h1; rw [if_neg h1]
theorem qx2 (c : K) : qco Tryz.prog 115 (curE c) (curE c) [.ptr 0 0] (.bool (begT c)) := by
  refine qbd c0bv 1 (by simp) (by simp) ?_
  repeat' (first | refine ql ?_ | ((first | refine qn ?_ | refine qm ?_ | refine qdt ?_ | refine a_Is ?_); simp only [go_sem, ↓reduceIte, Nat.reduceEqDiff, Nat.reduceAdd, Nat.reduceSub, Nat.reduceMul, Nat.reduceLT, Nat.reduceLeDiff, reduceCtorEq, Int.reduceToNat]) | ((first | refine qf ?_ ?_ | refine qd ?_ ?_) <;> intro hc <;> simp only [hc, go_sem, ↓reduceIte, Nat.reduceEqDiff, Nat.reduceAdd, Nat.reduceSub, Nat.reduceMul, Nat.reduceLT, Nat.reduceLeDiff, reduceCtorEq, Int.reduceToNat] <;> (try simp only [qb, qa, decide_eq_true_eq, decide_eq_false_iff_not, Bool.and_eq_true] at hc)) | refine And.intro (by first | assumption | omega | (have := qg (by assumption); omega) | (unfold qq; omega)) ?_ | fail)
  all_goals (unfold begT; simp_all)
theorem q9u {c : K} {L : List Ent} {Q : List Ent → VO → Prop} (hq : Q (curE c :: L) (.val (.bool (begT c)))) : VApp Tryz.prog (curE c :: L) (.fn 115 [] []) [.ptr 0 0] Q := qb2 (qx2 c) (qbh _ _) (qbh _ _) rfl rfl fun _ => hq
theorem qch {l : List N} (h : l ≠ []) : encs l ≠ [] := by cases l with | nil => exact absurd rfl h | cons _ _ => simp [encs]
def q06 (p : Int) (t : List UInt8) (c : K) (acc : List N) : AF × List Ent :=
  (⟨[(0, .ptr 0 0), (2, .ptr 1 0), (5, .ptr 2 0)], []⟩,
    curE c :: .blk [.int .i64 0, .int .i64 0, .int .i64 0, .str [], .nils] :: .blk [.int .i64 2, .int .i64 p, .int .i64 0, .str t, accV 3 (encs acc)] :: accE 5 (encs acc))
section
variable {rec : K → K × Option N} {b : Nat} (hm : ∀ c, Mon c (rec c).1) (ih : ∀ c, c.good → rest c < b → qco Tryz.prog 47 (curE c) (curE (rec c).1) [.ptr 0 0] (resP (rec c).2))
include hm ih
theorem qi7 (c : K) (hg : c.good) (hr : rest c ≤ b) : qco Tryz.prog 114 (curE c) (curE (qb5 rec c).1) [.ptr 0 0] (resP (qb5 rec c).2) := by
  have g1 : (qh c).1.good := (qy c).1 hg
  have g2 : (q8 (qh c).1).good := (qbt _).1 g1
  have g3 : (rec (q8 (qh c).1)).1.good := (hm _).1 g2
  have g4 : (qu (rec (q8 (qh c).1)).1 [41]).1.good := (qp _ _).1 g3
  have hrr : isK c [40] = true → (qh c).2 = true → rest (q8 (qh c).1) < b := fun h1 h2 => by
    have := qbj (c := (qh c).1) (by rw [qeg h2]; exact qdn h1)
    have := (qy c).2.1
    omega
  refine qbd c0bw 1 (by simp) (by simp) ?_
  repeat' (first | refine ql ?_ | refine qk ?_ | ((first | refine qn ?_ | refine qm ?_ | refine qj ?_ | refine qi ?_ | refine qdt ?_ | refine a_Is ?_ | refine qpk ?_ | refine qg9 ?_ | refine qin hg.ok ?_ | refine qin g1.ok ?_ | refine qdh (ih _ g2 (hrr (by assumption) (by assumption))) rfl ?_ | refine qdz g3.ok ?_ | refine qfs g4.2.2 ?_ | refine qfs g3.2.2 ?_ | refine qte ?_); simp only [go_sem, ↓reduceIte, Nat.reduceEqDiff, Nat.reduceAdd, Nat.reduceSub, Nat.reduceMul, Nat.reduceLT, Nat.reduceLeDiff, reduceCtorEq, Int.reduceToNat]) | ((first | refine qf ?_ ?_ | refine qd ?_ ?_) <;> intro hc <;> simp only [hc, go_sem, ↓reduceIte, Nat.reduceEqDiff, Nat.reduceAdd, Nat.reduceSub, Nat.reduceMul, Nat.reduceLT, Nat.reduceLeDiff, reduceCtorEq, Int.reduceToNat] <;> (try simp only [qb, qa, decide_eq_true_eq, decide_eq_false_iff_not, Bool.and_eq_true] at hc)) | refine And.intro (by first | assumption | omega | (have := qg (by assumption); omega) | (unfold qq; omega)) ?_ | fail)
  all_goals (try simp only [qzd (r := (rec (q8 (qh c).1)).2) (by assumption)])
  all_goals (try simp only [q94])
  all_goals (unfold qb5 qh4; simp only [*, qd7, Int.reduceEq, if_true, if_false, reduceIte, Bool.false_eq_true, Option.getD_none, Option.getD_some, Option.isSome_none, Option.isSome_some, and_self, true_and, and_true]; try rfl)
theorem qbeo (c : K) (hg : c.good) (hr : rest c ≤ b) : qco Tryz.prog 83 (curE c) (curE (qcf rec c).1) [.ptr 0 0] (resP (qcf rec c).2) := by
  refine qbd c0bx 1 (by simp) (by simp) ?_
  by_cases hk : (qbc c).kind = 2
  · have g1 : (q8 c).good := (qbt _).1 hg
    have hpa : qcf rec c = ((qd9 rec (rest c + 1) (q8 c) []).1, (qd9 rec (rest c + 1) (q8 c) []).2.map (qh4 c 2)) := by rw [qcf, if_pos hk]
    rw [hpa]
    clear hpa
    generalize htg : qd9 rec (rest c + 1) (q8 c) [] = tg
    have hmt : Mon (q8 c) tg.1 := htg ▸ qhy hm _ _ _
    have hrn := qbj (c := c) (by omega)
    repeat' (first | refine ql ?_ | refine qk ?_ | ((first | refine qn ?_ | refine qm ?_ | refine qs ?_ | refine qj ?_ | refine qi ?_); simp (disch := first | omega | (simp only [List.length_set, List.length_append, List.length_cons, List.length_nil]; done) | (simp only [List.length_set, List.length_append, List.length_cons, List.length_nil]; omega)) only [hk, Int.reduceEq, go_sem, ↓reduceIte, Nat.reduceEqDiff, Nat.reduceAdd, Nat.reduceSub, Nat.reduceMul, Nat.reduceLT, Nat.reduceLeDiff, reduceCtorEq, Int.reduceToNat]) | ((first | refine qf ?_ ?_ | refine qd ?_ ?_) <;> intro hc <;> simp only [hc, go_sem, ↓reduceIte, Nat.reduceEqDiff, Nat.reduceAdd, Nat.reduceSub, Nat.reduceMul, Nat.reduceLT, Nat.reduceLeDiff, reduceCtorEq, Int.reduceToNat] <;> (try simp only [qb, qa, decide_eq_true_eq, decide_eq_false_iff_not, Bool.and_eq_true] at hc)) | refine And.intro (by first | assumption | omega | (have := qg (by assumption); omega) | (unfold qq; omega)) ?_ | fail | ((first | refine qdt ?_ | refine qin hg.ok ?_); simp only [go_sem, ↓reduceIte, Nat.reduceEqDiff, Nat.reduceAdd, Nat.reduceSub, Nat.reduceMul, Nat.reduceLT, Nat.reduceLeDiff, reduceCtorEq, Int.reduceToNat]))
    refine qca (S := Nat × K × List N) (fun x => x.2.1.good ∧ rest x.2.1 ≤ b ∧ qd9 rec x.1 x.2.1 x.2.2 = tg ∧ rest x.2.1 < x.1 ∧ x.2.2.length + rest x.2.1 ≤ 1048577)
      (fun x => q06 (qbc c).pos (qbc c).text x.2.1 x.2.2) (fun x => rest x.2.1 + 1) ?_ ?_
    · refine qbq (rest c + 1, q8 c, []) [0, 1, 3] ⟨g1, by simp only; omega, htg, by simp only; omega, ?_⟩ rfl (by simp) ?_ ?_ ?_
      · have h9 := g1.rest
        unfold rest
        simp only [List.length_nil]
        omega
      all_goals simp only [q06, encs, qbs, qbu]
      all_goals simp only [go_sem, ↓reduceIte, Nat.reduceEqDiff, Nat.reduceAdd, Nat.reduceSub, Nat.reduceMul, Nat.reduceLT, Nat.reduceLeDiff, reduceCtorEq, Int.reduceToNat]
    · rintro ⟨fu, d, acc⟩ ⟨i1, i2, i3, i4, i5⟩
      simp only at i1 i2 i3 i4 i5
      unfold q06
      obtain ⟨fu, rfl⟩ : ∃ k, fu = k + 1 := ⟨fu - 1, by omega⟩
      rw [qd9] at i3
      have hcap : qq (acc.length + 1) 64 := capN (by omega)
      have j1 : (qb5 rec d).1.good := (qfq hm d).1 i1
      have j2 : rest (qb5 rec d).1 ≤ rest d := (qfq hm d).2.1
      by_cases h0 : acc = []
      · subst h0
        simp only [encs, qbs, qbu]
        repeat' (first | refine ql ?_ | refine qk ?_ | ((first | refine qn ?_ | refine qm ?_ | refine qs ?_ | refine qj ?_ | refine qi ?_ | refine q9u ?_ | refine qdh (qi7 hm ih _ i1 i2) rfl ?_); simp only [go_sem, ↓reduceIte, Nat.reduceEqDiff, Nat.reduceAdd, Nat.reduceSub, Nat.reduceMul, Nat.reduceLT, Nat.reduceLeDiff, reduceCtorEq, Int.reduceToNat]) | ((first | refine qf ?_ ?_ | refine qd ?_ ?_) <;> intro hc <;> simp only [hc, go_sem, ↓reduceIte, Nat.reduceEqDiff, Nat.reduceAdd, Nat.reduceSub, Nat.reduceMul, Nat.reduceLT, Nat.reduceLeDiff, reduceCtorEq, Int.reduceToNat] <;> (try simp only [qb, qa, decide_eq_true_eq, decide_eq_false_iff_not, Bool.and_eq_true] at hc)) | refine And.intro (by first | assumption | omega | (have := qg (by assumption); omega) | (unfold qq; omega)) ?_ | fail)
        · have hb : begT d = true := by assumption
          have hs : (qb5 rec d).2.isSome = false := by assumption
          rw [if_pos hb, if_neg (by rw [hs]; simp)] at i3
          subst i3
          exact ⟨rfl, by rw [qd7]; rfl⟩
        · have hb : begT d = true := by assumption
          have hs : (qb5 rec d).2.isSome = true := by assumption
          rw [if_pos hb, if_pos hs] at i3
          have hlt := qfw hm hs
          refine qbq (fu, (qb5 rec d).1, [] ++ [(qb5 rec d).2.getD N0]) [0, 1, 2, 4] ⟨⟨j1, by simp only; omega, i3, by simp only; omega, ?_⟩, by simp only; omega⟩ rfl (by simp) ?_ ?_ ?_
          · simp only [List.length_append, List.length_cons, List.length_nil]; omega
          all_goals simp only [q06, ← qz, qcr, qcs, List.nil_append, encs, qdc, qdd]
          all_goals simp only [go_sem, ↓reduceIte, Nat.reduceEqDiff, Nat.reduceAdd, Nat.reduceSub, Nat.reduceMul, Nat.reduceLT, Nat.reduceLeDiff, reduceCtorEq, Int.reduceToNat]
        · have hb : begT d = false := by assumption
          rw [if_neg (by rw [hb]; simp)] at i3
          subst i3
          simp only [Option.map_some, Option.getD_some, Option.isSome_some, enc, encs, qh4, and_self]
      · have hne := qch h0
        simp only [qb9 hne, qb7 hne, qb0]
        repeat' (first | refine ql ?_ | refine qk ?_ | ((first | refine qn ?_ | refine qm ?_ | refine qs ?_ | refine qj ?_ | refine qi ?_ | refine q9u ?_ | refine qdh (qi7 hm ih _ i1 i2) rfl ?_); simp only [go_sem, ↓reduceIte, Nat.reduceEqDiff, Nat.reduceAdd, Nat.reduceSub, Nat.reduceMul, Nat.reduceLT, Nat.reduceLeDiff, reduceCtorEq, Int.reduceToNat]) | ((first | refine qf ?_ ?_ | refine qd ?_ ?_) <;> intro hc <;> simp only [hc, go_sem, ↓reduceIte, Nat.reduceEqDiff, Nat.reduceAdd, Nat.reduceSub, Nat.reduceMul, Nat.reduceLT, Nat.reduceLeDiff, reduceCtorEq, Int.reduceToNat] <;> (try simp only [qb, qa, decide_eq_true_eq, decide_eq_false_iff_not, Bool.and_eq_true] at hc)) | refine And.intro (by first | assumption | omega | (have := qg (by assumption); omega) | (unfold qq; omega)) ?_ | fail)
        · have hb : begT d = true := by assumption
          have hs : (qb5 rec d).2.isSome = false := by assumption
          rw [if_pos hb, if_neg (by rw [hs]; simp)] at i3
          subst i3
          exact ⟨rfl, by rw [qd7]; rfl⟩
        · have hb : begT d = true := by assumption
          have hs : (qb5 rec d).2.isSome = true := by assumption
          rw [if_pos hb, if_pos hs] at i3
          have hlt := qfw hm hs
          refine qbq (fu, (qb5 rec d).1, acc ++ [(qb5 rec d).2.getD N0]) [0, 1, 2, 5] ⟨⟨j1, by simp only; omega, i3, by simp only; omega, ?_⟩, by simp only; omega⟩ rfl (by simp) ?_ ?_ ?_
          · simp only [List.length_append, List.length_cons, List.length_nil]; omega
          all_goals simp only [q06, ← qz, qcr, qcs, List.nil_append, encs, qdc, qdd]
          all_goals simp only [go_sem, ↓reduceIte, Nat.reduceEqDiff, Nat.reduceAdd, Nat.reduceSub, Nat.reduceMul, Nat.reduceLT, Nat.reduceLeDiff, reduceCtorEq, Int.reduceToNat]
          rw [qz, qb8, qc1]; exact ⟨rfl, rfl⟩
        · have hb : begT d = false := by assumption
          rw [if_neg (by rw [hb]; simp)] at i3
          subst i3
          simp only [Option.map_some, Option.getD_some, Option.isSome_some, enc, encs, qh4, and_self]
  · repeat' (first | refine ql ?_ | refine qk ?_ | ((first | refine qn ?_ | refine qm ?_ | refine qs ?_ | refine qj ?_ | refine qi ?_); simp (disch := first | omega | (simp only [List.length_set, List.length_append, List.length_cons, List.length_nil]; done) | (simp only [List.length_set, List.length_append, List.length_cons, List.length_nil]; omega)) only [hk, go_sem, ↓reduceIte, Nat.reduceEqDiff, Nat.reduceAdd, Nat.reduceSub, Nat.reduceMul, Nat.reduceLT, Nat.reduceLeDiff, reduceCtorEq, Int.reduceToNat]) | ((first | refine qf ?_ ?_ | refine qd ?_ ?_) <;> intro hc <;> simp only [hc, go_sem, ↓reduceIte, Nat.reduceEqDiff, Nat.reduceAdd, Nat.reduceSub, Nat.reduceMul, Nat.reduceLT, Nat.reduceLeDiff, reduceCtorEq, Int.reduceToNat] <;> (try simp only [qb, qa, decide_eq_true_eq, decide_eq_false_iff_not, Bool.and_eq_true] at hc)) | refine And.intro (by first | assumption | omega | (have := qg (by assumption); omega) | (unfold qq; omega)) ?_ | fail | ((first | refine qdt ?_ | refine qdh (qi7 hm ih c hg hr) rfl ?_); simp only [go_sem, ↓reduceIte, Nat.reduceEqDiff, Nat.reduceAdd, Nat.reduceSub, Nat.reduceMul, Nat.reduceLT, Nat.reduceLeDiff, reduceCtorEq, Int.reduceToNat]))
    rw [qcf, if_neg hk]; exact ⟨rfl, rfl⟩
end
theorem qu0 {f : Nat} (ih : ∀ c, c.good → rest c < f → qco Tryz.prog 47 (curE c) (curE (qcb f c).1) [.ptr 0 0] (resP (qcb f c).2)) (c : K) (hg : c.good) (hr : rest c < f + 1) :
    qco Tryz.prog 47 (curE c) (curE (qcb (f + 1) c).1) [.ptr 0 0] (resP (qcb (f + 1) c).2) := by
  have hm := qgt f
  have g1 : (qh c).1.good := (qy c).1 hg
  have hr1 : rest (qh c).1 ≤ f := by have := (qy c).2.1; omega
  have hrow := qbeo hm ih _ g1 hr1
  have mrow := qoi hm (qh c).1
  have lrow := quy hm (c := (qh c).1)
  have hpa : qcb (f + 1) c = if (qh c).2 = true then
      if (qcf (qcb f) (qh c).1).2.isSome = true then
        if (qr (qcf (qcb f) (qh c).1).1 [45, 62]).2 = true then
          (qcg (qcb f (qr (qcf (qcb f) (qh c).1).1 [45, 62]).1).1, (qcb f (qr (qcf (qcb f) (qh c).1).1 [45, 62]).1).2.map (qh1 ((qcf (qcb f) (qh c).1).2.getD N0)))
        else (qcg (qcf (qcb f) (qh c).1).1, (qcf (qcb f) (qh c).1).2)
      else (qcg (qcf (qcb f) (qh c).1).1, none)
    else ((qh c).1, none) := by rw [qcb]
  rw [hpa]
  clear hpa
  generalize qcf (qcb f) (qh c).1 = r at *
  have g2 : r.1.good := mrow.1 g1
  have g3 : (qr r.1 [45, 62]).1.good := (qbb _ _).1 g2
  have g4 : (qcb f (qr r.1 [45, 62]).1).1.good := (hm _).1 g3
  have hlt : r.2.isSome = true → rest (qr r.1 [45, 62]).1 < f := fun h => by
    have := lrow h
    have := (qbb r.1 [45, 62]).2.1
    omega
  refine qbd c0by 1 (by simp) (by simp) ?_
  repeat' (first | refine ql ?_ | ((first | refine qn ?_ | refine qm ?_ | refine qj ?_ | refine qi ?_ | refine qg9 ?_ | refine qdh hrow rfl ?_ | refine qe9 g2.ok ?_ | refine qdh (ih _ g3 (hlt (by assumption))) rfl ?_ | refine qfs g4.2.2 ?_ | refine qfs g3.2.2 ?_ | refine qfs g2.2.2 ?_ | refine qte ?_ | refine qts ?_); simp only [go_sem, ↓reduceIte, Nat.reduceEqDiff, Nat.reduceAdd, Nat.reduceSub, Nat.reduceMul, Nat.reduceLT, Nat.reduceLeDiff, reduceCtorEq, Int.reduceToNat]) | ((first | refine qf ?_ ?_ | refine qd ?_ ?_) <;> intro hc <;> simp only [hc, go_sem, ↓reduceIte, Nat.reduceEqDiff, Nat.reduceAdd, Nat.reduceSub, Nat.reduceMul, Nat.reduceLT, Nat.reduceLeDiff, reduceCtorEq, Int.reduceToNat] <;> (try simp only [qb, qa, decide_eq_true_eq, decide_eq_false_iff_not, Bool.and_eq_true] at hc)) | refine And.intro (by first | assumption | omega | (have := qg (by assumption); omega) | (unfold qq; omega)) ?_ | fail)
  all_goals (try simp only [qdj (c := r.1) (by assumption)])
  all_goals (try simp only [qzd (r := r.2) (by assumption)])
  all_goals (try simp only [q94, qyl])
  all_goals (simp only [*, qd7, if_true, if_false, reduceIte, Bool.false_eq_true, Option.getD_none, Option.getD_some, Option.isSome_none, Option.isSome_some, and_self, true_and, and_true]; try rfl)
theorem qzu (f : Nat) : ∀ c : K, c.good → rest c < f → qco Tryz.prog 47 (curE c) (curE (qcb f c).1) [.ptr 0 0] (resP (qcb f c).2) := by
  induction f with
  | zero => exact fun c _ h => absurd h (by omega)
  | succ f ih => exact qu0 ih
end Go.Proofs.YtmekebfgmjaenaaGreat
