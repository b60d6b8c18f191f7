/- Texts of this proof, joined. -/
import Derived.Test.YtmekebfgmjaenaaGreatEav
import Derived.Test.YtmekebfgmjaenaaGreatEax

/- the cursor: in other places; texts; trees that are whole -/
namespace Go.Proofs.YtmekebfgmjaenaaGreat
open Go Go.RowKit Go.V
set_option linter.unusedVariables false
set_option linter.unusedSimpArgs false

section
variable {P : Program} {f : FuncId} {e e' : Ent} {L : List Ent} {args0 args : List AV} {r : AV} {Q : List Ent → VO → Prop}
/-- The call's entry lies at place k. -/
theorem qxn (k : Nat) (h : qcp P f e e' args0 r) (hk : L[k]? = some e) (hb : e.bd 0 = true) (hb' : e'.bd 0 = true) (ha : AV.bds 1 args0 = true) (hr : r.bd 0 = true) (hs : AV.rens (sg [k]) args0 = args) (hq : r.wf → Q (L.set k e') (.val r)) :
    VApp P L (.fn f [] []) args Q :=
  qhw (first := []) (caps := []) (by
    simp only [List.nil_append, List.append_nil]
    rw [← hs]
    have hlt : k < L.length := (List.getElem?_eq_some_iff.1 hk).1
    refine qgr (H0 := [e]) [k] (h.mono' (Q' := fun H' o => (H' = [e'] ∧ o = .val r) ∧ r.wf) fun H' o hw ho => ⟨ho, by have := ho.2; subst this; exact hw⟩) (by simp) (by simpa using hlt) rfl ?_ ha ?_
    · intro j e2 hj
      obtain rfl : j = 0 := by have := (List.getElem?_eq_some_iff.1 hj).1; simp at this; omega
      simp only [List.getElem?_cons_zero, Option.some.injEq] at hj
      subst hj
      exact .inr ⟨Ent.bd_le (Nat.zero_le _) _ hb, by rw [Ent.ren_same (m := 0) (fun i hi => by omega) _ hb]; exact hk⟩
    · rintro H1 o ⟨⟨rfl, rfl⟩, hw⟩
      have h1 : e'.ren (sg' [k] L.length) = e' := Ent.ren_same (m := 0) (fun i hi => by omega) _ hb'
      have h2 : r.ren (sg' [k] L.length) = r := ren_same (m := 0) (fun i hi => by omega) _ hr
      simp only [List.length_cons, List.length_nil, List.take_succ_cons, List.take_zero, List.map_cons, List.map_nil, qcn, h1, VO.ren, h2, List.drop_succ_cons, List.drop_nil, List.append_nil]
      exact hq hw)
/-- A call that makes an entry. -/
theorem q9k (h : VCalls P f [] args fun H' o => H' = [e] ∧ o = .val (.ptr 0 0)) (hb : e.bd 0 = true) (ha : AV.bds 0 args = true) (hq : Q (L ++ [e]) (.val (.ptr L.length 0))) : VApp P L (.fn f [] []) args Q :=
  qhw (first := []) (caps := []) (by
    simp only [List.nil_append, List.append_nil]
    have hs : AV.rens (sg []) args = args := qck (m := 0) (fun i hi => by omega) _ ha
    rw [← hs]
    refine qgr (H0 := []) [] h (by simp) (by simp) rfl (fun j e2 hj => by simp at hj) ha ?_
    rintro H1 o ⟨rfl, rfl⟩
    have h1 : e.ren (sg' [] L.length) = e := Ent.ren_same (m := 0) (fun i hi => by omega) _ hb
    simp only [List.length_nil, List.take_zero, List.map_nil, qcn, List.drop_zero, List.map_cons, h1, VO.ren, AV.ren, sg', Nat.not_lt_zero, if_false, Nat.sub_zero, Nat.add_zero]
    exact hq)
end
theorem qk0 (s : List UInt8) : (lexV s).1.length ≤ 1048577 ∧ (lexV s).1.length ≤ s.length + 1 := by
  by_cases h : 1048576 < (s.length : Int)
  · rw [qm9 h]; simp
  · have hll : (lexG s (qcz s)).1.length ≤ s.length := by have := qsj (s := s) (s.length - qcz s) (qcz s); unfold lexG; omega
    by_cases he : (lexG s (qcz s)).2.2 = 0
    · rw [qoa h he]; simp only [List.length_append, List.length_cons, List.length_nil]; omega
    · rw [qlk h he]; simp
theorem qz6 {n : N} (h : sz n ≤ 1000000) : (qd8 (fun (k : Int) l _ => (if l > k then l else k, true)) n 1 0).1 = depR n := by
  show (qd8 dpF n 1 0).1 = depR n
  rw [qbka n 1 0 (by omega) (by omega), q35 n (by omega)]
  have := q3t n
  simp only; omega

/-! The cursor: it has gone on, if it has gone; a failure stays. -/
def K.good (c : K) : Prop := c.at' ≤ c.l.length ∧ c.l.length ≤ 1048577 ∧ c.nest ≤ 200
def rest (c : K) : Nat := c.l.length - c.at'
theorem K.good.ok {c : K} (h : c.good) : c.ok := ⟨h.1, Nat.le_trans h.2.1 (by unfold maxLen; omega)⟩
theorem K.good.rest {c : K} (h : c.good) : c.l.length - c.at' ≤ 1048577 := by have := h.2.1; omega
theorem capN {n : Nat} (h : n ≤ 1048580) : qp n 64 := by unfold qp; omega
def Mon (c c' : K) : Prop := (c.good → c'.good) ∧ rest c' ≤ rest c ∧ (c.err ≠ 0 → c'.err ≠ 0) ∧ c'.l = c.l
theorem Mon.refl (c : K) : Mon c c := ⟨id, Nat.le_refl _, id, rfl⟩
theorem Mon.trans {a b c : K} (h : Mon a b) (k : Mon b c) : Mon a c := ⟨fun g => k.1 (h.1 g), Nat.le_trans k.2.1 h.2.1, fun e => k.2.2.1 (h.2.2.1 e), k.2.2.2.trans h.2.2.2⟩
def em (c : K) : Nat := if c.err = 0 then rest c + 1 else 0
theorem Mon.em {c c' : K} (h : Mon c c') : em c' ≤ em c := by
  unfold Go.Proofs.YtmekebfgmjaenaaGreat.em
  have := h.2.1
  split
  · split
    · omega
    · rename_i h1 h2; exact absurd h1 (h.2.2.1 h2)
  · omega
theorem qji (c : K) : em c ≤ rest c + 1 := by unfold em; split <;> omega
theorem qb5s {c : K} (h : c.err ≠ 0) : em c = 0 := if_neg h
theorem qbj5 {c : K} (h : c.err = 0) : em c = rest c + 1 := if_pos h
theorem qhf (c : K) {e : Int} : (qe6 c e).err ≠ 0 := by
  unfold qe6
  split
  · simp only; split
    · simp
    · assumption
  · assumption
theorem qbs (c : K) : Mon c (q9 c) := by
  unfold q9
  split
  · split
    · exact ⟨fun h => ⟨by simp only; omega, h.2⟩, by unfold rest; simp only; omega, id, rfl⟩
    · exact Mon.refl c
  · exact Mon.refl c
theorem qfk (c : K) (e : Int) : Mon c (qe6 c e) := by
  refine ⟨?_, ?_, fun _ => qhf c, ?_⟩ <;> unfold qe6 <;> split <;> first | exact id | exact Nat.le_refl _ | rfl
theorem qx (c : K) : Mon c (qj c).1 := by
  unfold qj
  split
  · split
    · rename_i h1; exact ⟨fun h => ⟨h.1, h.2.1, by simp only; omega⟩, Nat.le_refl _, id, rfl⟩
    · exact qfk c 2
  · exact Mon.refl c
theorem qbw (c : K) : Mon c (qch c) := by
  unfold qch
  split
  · split
    · exact ⟨fun h => ⟨h.1, h.2.1, by have := h.2.2; simp only; omega⟩, Nat.le_refl _, id, rfl⟩
    · exact Mon.refl c
  · exact Mon.refl c
theorem q8 (c : K) (x : List UInt8) : Mon c (qt c x).1 := by
  unfold qt
  split
  · exact qbs c
  · exact Mon.refl c
theorem qq (c : K) (x : List UInt8) : Mon c (qv c x).1 := by
  unfold qv
  split
  · exact qbs c
  · exact qfk c 5
theorem qgw {c : K} (h : (qbd c).kind ≠ 0) : c.err = 0 ∧ c.at' < c.l.length := by
  unfold qbd at h
  split at h
  · rename_i h1
    split at h
    · rename_i h2; exact ⟨h1, h2⟩
    · exact absurd rfl h
  · exact absurd rfl h
theorem qbo {c : K} (h : (qbd c).kind ≠ 0) : rest (q9 c) + 1 = rest c := by
  obtain ⟨h1, h2⟩ := qgw h
  rw [qse h1 (by omega)]
  unfold rest; simp only; omega
theorem qdo {c : K} {x : List UInt8} (h : isK c x = true) : (qbd c).kind ≠ 0 := by
  simp only [isK, qiv, Bool.and_eq_true, Bool.or_eq_true, decide_eq_true_eq] at h
  omega
theorem qvm {c : K} {x : List UInt8} (h : isK c x = true) : c.err = 0 := by
  simp only [isK, Bool.and_eq_true, decide_eq_true_eq] at h
  exact h.1
theorem qtf {c : K} (h : (qj c).2 = true) : c.err = 0 ∧ (qj c).1.err = 0 ∧ (qj c).1 = { c with nest := c.nest + 1 } := by
  unfold qj at h ⊢
  split at h
  · rename_i h1
    split at h
    · rename_i h2; rw [if_pos h1, if_pos h2]; exact ⟨h1, h1, rfl⟩
    · cases h
  · cases h
theorem qeo {c : K} (h : (qj c).2 = true) : qbd (qj c).1 = qbd c := by rw [(qtf h).2.2]; rfl
theorem qm5 {c : K} {x : List UInt8} (h : (qj c).2 = true) : isK (qj c).1 x = isK c x := by rw [(qtf h).2.2]; rfl
theorem qf9 {c : K} (h : (qj c).2 = false) : (qj c).1.err ≠ 0 := by
  unfold qj at h ⊢
  split at h
  · rename_i h1
    split at h
    · cases h
    · rename_i h2; rw [if_pos h1, if_neg h2]; exact qhf c
  · rename_i h1; rw [if_neg h1]; exact h1
theorem qec {c : K} {x : List UInt8} (h : (qv c x).2 = false) : (qv c x).1.err ≠ 0 := by
  unfold qv at h ⊢
  split at h
  · cases h
  · rename_i h1; rw [if_neg h1]; exact qhf c
theorem qcl {c : K} (h : c.err ≠ 0) : qch c = c := if_neg h
theorem qvw {c : K} {x : List UInt8} (h : c.err ≠ 0) : isK c x = false := by
  simp only [isK, decide_eq_false h, Bool.false_and]
theorem qb8 {c : K} {x : List UInt8} (h : c.err ≠ 0) : qv c x = (c, false) := by
  rw [qv, if_neg (by rw [qvw h]; simp), qf8 h]
theorem qft {c : K} {x : List UInt8} (h : c.err ≠ 0) : qt c x = (c, false) := qvc (qvw h)
theorem qnm {c : K} {x : List UInt8} (h : isK c x = true) : qv c x = (q9 c, true) := if_pos h

/-! Types: the program. -/
def begT (c : K) : Bool := decide ((qbd c).kind = 1) || decide ((qbd c).kind = 2) || isK c [40]
def qh1 (c : K) (k : Int) (ks : List N) : N := .mk k (qbd c).pos 0 (qbd c).text ks
def qb2 (rec : K → K × Option N) (c : K) : K × Option N :=
  if (qbd c).kind = 1 then (q9 c, some (qh1 c 1 []))
  else if (qbd c).kind = 2 then (q9 c, some (qh1 c 2 []))
  else if isK c [40] = true then
    if (qj c).2 = true then
      if (rec (q9 (qj c).1)).2.isSome = true then
        (qch (qv (rec (q9 (qj c).1)).1 [41]).1, if (qv (rec (q9 (qj c).1)).1 [41]).2 = true then (rec (q9 (qj c).1)).2 else none)
      else (qch (rec (q9 (qj c).1)).1, none)
    else ((qj c).1, none)
  else (qe6 c 5, none)
def qdz (rec : K → K × Option N) : Nat → K → List N → K × Option (List N)
  | 0, c, acc => (c, none)
  | f + 1, c, acc =>
    if begT c = true then
      if (qb2 rec c).2.isSome = true then qdz rec f (qb2 rec c).1 (acc ++ [(qb2 rec c).2.getD N0])
      else ((qb2 rec c).1, none)
    else (c, some acc)
def qce (rec : K → K × Option N) (c : K) : K × Option N :=
  if (qbd c).kind = 2 then ((qdz rec (rest c + 1) (q9 c) []).1, (qdz rec (rest c + 1) (q9 c) []).2.map (qh1 c 2))
  else qb2 rec c
def qh2 (n m : N) : N := .mk 2 n.pos 0 [45, 62] [n, m]
def qca : Nat → K → K × Option N
  | 0, c => (c, none)
  | f + 1, c =>
    if (qj c).2 = true then
      if (qce (qca f) (qj c).1).2.isSome = true then
        if (qt (qce (qca f) (qj c).1).1 [45, 62]).2 = true then
          (qch (qca f (qt (qce (qca f) (qj c).1).1 [45, 62]).1).1, (qca f (qt (qce (qca f) (qj c).1).1 [45, 62]).1).2.map (qh2 ((qce (qca f) (qj c).1).2.getD N0)))
        else (qch (qce (qca f) (qj c).1).1, (qce (qca f) (qj c).1).2)
      else (qch (qce (qca f) (qj c).1).1, none)
    else ((qj c).1, none)
section
variable {rec : K → K × Option N} (hm : ∀ c, Mon c (rec c).1)
include hm
theorem qfx (c : K) : Mon c (qb2 rec c).1 := by
  unfold qb2
  split
  · exact qbs c
  · split
    · exact qbs c
    · split
      · split
        · have h1 := ((qx c).trans (qbs _)).trans (hm _)
          split
          · exact (h1.trans (qq _ _)).trans (qbw _)
          · exact h1.trans (qbw _)
        · exact qx c
      · exact qfk c 5
theorem qgb {c : K} (h : (qb2 rec c).2.isSome = true) : rest (qb2 rec c).1 < rest c := by
  unfold qb2 at h ⊢
  split at h
  · rename_i h1; rw [if_pos h1]; have := qbo (c := c) (by omega); simp only; omega
  · rename_i h1
    rw [if_neg h1]
    split at h
    · rename_i h2; rw [if_pos h2]; have := qbo (c := c) (by omega); simp only; omega
    · rename_i h2
      rw [if_neg h2]
      split at h
      · rename_i hk
        rw [if_pos hk]
        split at h
        · rename_i he
          rw [if_pos he]
          have hp := qbo (c := (qj c).1) (by rw [qeo he]; exact qdo hk)
          have h0 := (qx c).2.1
          have h1 := (hm (q9 (qj c).1)).2.1
          split at h
          · rename_i hr
            rw [if_pos hr]
            have h2 := (qq (rec (q9 (qj c).1)).1 [41]).2.1
            have h3 := (qbw (qv (rec (q9 (qj c).1)).1 [41]).1).2.1
            simp only; omega
          · cases h
        · cases h
      · cases h
theorem qii : ∀ (f : Nat) (c : K) (acc : List N), Mon c (qdz rec f c acc).1
  | 0, c, acc => Mon.refl c
  | f + 1, c, acc => by
    rw [qdz]
    split
    · split
      · exact (qfx hm c).trans (qii f _ _)
      · exact qfx hm c
    · exact Mon.refl c
theorem qqj (c : K) : Mon c (qce rec c).1 := by
  unfold qce
  split
  · exact (qbs c).trans (qii hm _ _ _)
  · exact qfx hm c
theorem qv9 {c : K} (h : (qce rec c).2.isSome = true) : rest (qce rec c).1 < rest c := by
  unfold qce at h ⊢
  split at h
  · rename_i h1
    rw [if_pos h1]
    have := qbo (c := c) (by omega)
    have := (qii hm (rest c + 1) (q9 c) []).2.1
    simp only; omega
  · rename_i h1
    rw [if_neg h1]
    exact qgb hm h
end
theorem qg3 : ∀ (f : Nat) (c : K), Mon c (qca f c).1
  | 0, c => Mon.refl c
  | f + 1, c => by
    have hr := (qx c).trans (qqj (qg3 f) (qj c).1)
    rw [qca]
    split
    · split
      · split
        · exact ((hr.trans (q8 _ _)).trans (qg3 f _)).trans (qbw _)
        · exact hr.trans (qbw _)
      · exact hr.trans (qbw _)
    · exact qx c
theorem q0q {c : K} (h : begT c = true) : c.err = 0 := by
  simp only [begT, Bool.or_eq_true, decide_eq_true_eq] at h
  rcases h with (h | h) | h
  · exact (qgw (by omega)).1
  · exact (qgw (by omega)).1
  · exact qvm h
theorem q4r {c : K} (h : c.err ≠ 0) : begT c = false := by
  cases hb : begT c with
  | false => rfl
  | true => exact absurd (q0q hb) h
set_option maxRecDepth 4000

def resP (r : Option N) : AV := .tup [enc (r.getD N0), .bool r.isSome]
attribute [go_sem] resP
theorem q3j (k : Nat) (r : Option N) : (resP r).bd k = true := by simp only [resP, AV.bd, AV.bds, qpf, Bool.and_true]
theorem qdt {P : Program} {f : FuncId} {c c' : K} {L : List Ent} {args : List AV} {r : Option N} {Q : List Ent → VO → Prop} (h : qcp P f (curE c) (curE c') args (resP r)) (ha : AV.bds 1 args = true) (hq : Q (curE c' :: L) (.val (resP r))) : VApp P (curE c :: L) (.fn f [] []) args Q :=
  qb9 h (qbm _ _) (qbm _ _) ha (q3j _ _) fun _ => hq
theorem qd3 : AV.agg [.int .i64 0, .int .i64 0, .int .i64 0, .str [], .sl 5 []] = enc N0 := by simp [N0, enc, encs]
/-- The tree, or nothing. -/
def qlu (n : N) (b : Bool) : Option N := if b = true then some n else none
theorem qbdl (n : N) : qlu n false = none := rfl
theorem q2y {r : Option N} {b : Bool} (h : r.isSome = true) : qlu (r.getD N0) b = if b = true then r else none := by
  cases r with
  | none => cases h
  | some n => rfl
theorem q8f (c : K) (n : N) (b : Bool) : qcp Tryz.prog 48 (curE c) (curE c) [.ptr 0 0, enc n, .bool b] (resP (qlu n b)) := by
  refine qbe c0bu 1 (by simp) (by simp) ?_
  repeat' (first | refine ql ?_ | ((first | refine qn ?_ | refine qm ?_ | refine qi ?_ | refine qh ?_); simp only [go_sem, ↓reduceIte, Nat.reduceEqDiff, Nat.reduceAdd, Nat.reduceSub, Nat.reduceMul, Nat.reduceLT, Nat.reduceLeDiff, reduceCtorEq, Int.reduceToNat]) | ((first | refine qf ?_ ?_ | refine qe ?_ ?_) <;> intro hc <;> simp only [hc, go_sem, ↓reduceIte, Nat.reduceEqDiff, Nat.reduceAdd, Nat.reduceSub, Nat.reduceMul, Nat.reduceLT, Nat.reduceLeDiff, reduceCtorEq, Int.reduceToNat] <;> (try simp only [qb, qa, decide_eq_true_eq, decide_eq_false_iff_not, Bool.and_eq_true] at hc)) | refine And.intro (by first | assumption | omega | (have := qg (by assumption); omega) | (unfold qp; omega)) ?_ | fail)
  all_goals (unfold qlu; simp_all [qd3])
theorem qu3 {c : K} {L : List Ent} {n : N} {b : Bool} {Q : List Ent → VO → Prop} (hq : Q (curE c :: L) (.val (resP (qlu n b)))) : VApp Tryz.prog (curE c :: L) (.fn 48 [] []) [.ptr 0 0, enc n, .bool b] Q := qdt (q8f c n b) (by simp only [AV.bds, AV.bd, qpf]; rfl) hq
theorem qvs {c : K} {L : List Ent} {n m : N} {b : Bool} {Q : List Ent → VO → Prop} (hq : Q (curE c :: L) (.val (resP (qlu (qh2 n m) b)))) :
    VApp Tryz.prog (curE c :: L) (.fn 48 [] []) [.ptr 0 0, .agg [.int .i64 2, .int .i64 n.pos, .int .i64 0, .str [45, 62], .sl 5 [enc n, enc m]], .bool b] Q := by
  have h := qu3 (n := qh2 n m) hq
  simpa only [qh2, enc, encs] using h
theorem qr9 {r : Option N} {g : N → N} : qlu (g (r.getD N0)) r.isSome = r.map g := by cases r <;> rfl
theorem qza {r : Option N} {n : N} : qlu (qh2 n (r.getD N0)) r.isSome = r.map (qh2 n) := qr9
theorem qdl {c : K} {x : List UInt8} (h : (qt c x).2 = false) : (qt c x).1 = c := by
  unfold qt at *
  split at h
  · cases h
  · rename_i h1; rw [if_neg h1]
theorem qyo (c : K) : qcp Tryz.prog 115 (curE c) (curE c) [.ptr 0 0] (.bool (begT c)) := by
  refine qbe c0bv 1 (by simp) (by simp) ?_
  repeat' (first | refine ql ?_ | ((first | refine qn ?_ | refine qm ?_ | refine qdv ?_ | refine a_Is ?_); simp only [go_sem, ↓reduceIte, Nat.reduceEqDiff, Nat.reduceAdd, Nat.reduceSub, Nat.reduceMul, Nat.reduceLT, Nat.reduceLeDiff, reduceCtorEq, Int.reduceToNat]) | ((first | refine qf ?_ ?_ | refine qe ?_ ?_) <;> intro hc <;> simp only [hc, go_sem, ↓reduceIte, Nat.reduceEqDiff, Nat.reduceAdd, Nat.reduceSub, Nat.reduceMul, Nat.reduceLT, Nat.reduceLeDiff, reduceCtorEq, Int.reduceToNat] <;> (try simp only [qb, qa, decide_eq_true_eq, decide_eq_false_iff_not, Bool.and_eq_true] at hc)) | refine And.intro (by first | assumption | omega | (have := qg (by assumption); omega) | (unfold qp; omega)) ?_ | fail)
  all_goals (unfold begT; simp_all)
theorem qbdc {c : K} {L : List Ent} {Q : List Ent → VO → Prop} (hq : Q (curE c :: L) (.val (.bool (begT c)))) : VApp Tryz.prog (curE c :: L) (.fn 115 [] []) [.ptr 0 0] Q := qb9 (qyo c) (qbm _ _) (qbm _ _) rfl rfl fun _ => hq
theorem qci {l : List N} (h : l ≠ []) : encs l ≠ [] := by cases l with | nil => exact absurd rfl h | cons _ _ => simp [encs]
def q44 (p : Int) (t : List UInt8) (c : K) (acc : List N) : AF × List Ent :=
  (⟨[(0, .ptr 0 0), (2, .ptr 1 0), (5, .ptr 2 0)], []⟩,
    curE c :: .blk [.int .i64 0, .int .i64 0, .int .i64 0, .str [], .nils] :: .blk [.int .i64 2, .int .i64 p, .int .i64 0, .str t, accV 3 (encs acc)] :: accE 5 (encs acc))
section
variable {rec : K → K × Option N} {b : Nat} (hm : ∀ c, Mon c (rec c).1) (ih : ∀ c, c.good → rest c < b → qcp Tryz.prog 47 (curE c) (curE (rec c).1) [.ptr 0 0] (resP (rec c).2))
include hm ih
theorem qj8 (c : K) (hg : c.good) (hr : rest c ≤ b) : qcp Tryz.prog 114 (curE c) (curE (qb2 rec c).1) [.ptr 0 0] (resP (qb2 rec c).2) := by
  have g1 : (qj c).1.good := (qx c).1 hg
  have g2 : (q9 (qj c).1).good := (qbs _).1 g1
  have g3 : (rec (q9 (qj c).1)).1.good := (hm _).1 g2
  have g4 : (qv (rec (q9 (qj c).1)).1 [41]).1.good := (qq _ _).1 g3
  have hrr : isK c [40] = true → (qj c).2 = true → rest (q9 (qj c).1) < b := fun h1 h2 => by
    have := qbo (c := (qj c).1) (by rw [qeo h2]; exact qdo h1)
    have := (qx c).2.1
    omega
  refine qbe c0bw 1 (by simp) (by simp) ?_
  repeat' (first | refine ql ?_ | refine qk ?_ | ((first | refine qn ?_ | refine qm ?_ | refine qi ?_ | refine qh ?_ | refine qdv ?_ | refine a_Is ?_ | refine qqb ?_ | refine qht ?_ | refine qi8 hg.ok ?_ | refine qi8 g1.ok ?_ | refine qdt (ih _ g2 (hrr (by assumption) (by assumption))) rfl ?_ | refine qd2 g3.ok ?_ | refine qfz g4.2.2 ?_ | refine qfz g3.2.2 ?_ | refine qu3 ?_); simp only [go_sem, ↓reduceIte, Nat.reduceEqDiff, Nat.reduceAdd, Nat.reduceSub, Nat.reduceMul, Nat.reduceLT, Nat.reduceLeDiff, reduceCtorEq, Int.reduceToNat]) | ((first | refine qf ?_ ?_ | refine qe ?_ ?_) <;> intro hc <;> simp only [hc, go_sem, ↓reduceIte, Nat.reduceEqDiff, Nat.reduceAdd, Nat.reduceSub, Nat.reduceMul, Nat.reduceLT, Nat.reduceLeDiff, reduceCtorEq, Int.reduceToNat] <;> (try simp only [qb, qa, decide_eq_true_eq, decide_eq_false_iff_not, Bool.and_eq_true] at hc)) | refine And.intro (by first | assumption | omega | (have := qg (by assumption); omega) | (unfold qp; omega)) ?_ | fail)
  all_goals (try simp only [q2y (r := (rec (q9 (qj c).1)).2) (by assumption)])
  all_goals (try simp only [qbdl])
  all_goals (unfold qb2 qh1; simp only [*, qd3, Int.reduceEq, if_true, if_false, reduceIte, Bool.false_eq_true, Option.getD_none, Option.getD_some, Option.isSome_none, Option.isSome_some, and_self, true_and, and_true]; try rfl)
theorem qbnp (c : K) (hg : c.good) (hr : rest c ≤ b) : qcp Tryz.prog 83 (curE c) (curE (qce rec c).1) [.ptr 0 0] (resP (qce rec c).2) := by
  refine qbe c0bx 1 (by simp) (by simp) ?_
  by_cases hk : (qbd c).kind = 2
  · have g1 : (q9 c).good := (qbs _).1 hg
    have hpa : qce rec c = ((qdz rec (rest c + 1) (q9 c) []).1, (qdz rec (rest c + 1) (q9 c) []).2.map (qh1 c 2)) := by rw [qce, if_pos hk]
    rw [hpa]
    clear hpa
    generalize htg : qdz rec (rest c + 1) (q9 c) [] = tg
    have hmt : Mon (q9 c) tg.1 := htg ▸ qii hm _ _ _
    have hrn := qbo (c := c) (by omega)
    repeat' (first | refine ql ?_ | refine qk ?_ | ((first | refine qn ?_ | refine qm ?_ | refine qs ?_ | refine qi ?_ | refine qh ?_); simp (disch := first | omega | (simp only [List.length_set, List.length_append, List.length_cons, List.length_nil]; done) | (simp only [List.length_set, List.length_append, List.length_cons, List.length_nil]; omega)) only [hk, Int.reduceEq, go_sem, ↓reduceIte, Nat.reduceEqDiff, Nat.reduceAdd, Nat.reduceSub, Nat.reduceMul, Nat.reduceLT, Nat.reduceLeDiff, reduceCtorEq, Int.reduceToNat]) | ((first | refine qf ?_ ?_ | refine qe ?_ ?_) <;> intro hc <;> simp only [hc, go_sem, ↓reduceIte, Nat.reduceEqDiff, Nat.reduceAdd, Nat.reduceSub, Nat.reduceMul, Nat.reduceLT, Nat.reduceLeDiff, reduceCtorEq, Int.reduceToNat] <;> (try simp only [qb, qa, decide_eq_true_eq, decide_eq_false_iff_not, Bool.and_eq_true] at hc)) | refine And.intro (by first | assumption | omega | (have := qg (by assumption); omega) | (unfold qp; omega)) ?_ | fail | ((first | refine qdv ?_ | refine qi8 hg.ok ?_); simp only [go_sem, ↓reduceIte, Nat.reduceEqDiff, Nat.reduceAdd, Nat.reduceSub, Nat.reduceMul, Nat.reduceLT, Nat.reduceLeDiff, reduceCtorEq, Int.reduceToNat]))
    refine qby (S := Nat × K × List N) (fun x => x.2.1.good ∧ rest x.2.1 ≤ b ∧ qdz rec x.1 x.2.1 x.2.2 = tg ∧ rest x.2.1 < x.1 ∧ x.2.2.length + rest x.2.1 ≤ 1048577)
      (fun x => q44 (qbd c).pos (qbd c).text x.2.1 x.2.2) (fun x => rest x.2.1 + 1) ?_ ?_
    · refine qbn (rest c + 1, q9 c, []) [0, 1, 3] ⟨g1, by simp only; omega, htg, by simp only; omega, ?_⟩ rfl (by simp) ?_ ?_ ?_
      · have h9 := g1.rest
        unfold rest
        simp only [List.length_nil]
        omega
      all_goals simp only [q44, encs, qbu, qbv]
      all_goals simp only [go_sem, ↓reduceIte, Nat.reduceEqDiff, Nat.reduceAdd, Nat.reduceSub, Nat.reduceMul, Nat.reduceLT, Nat.reduceLeDiff, reduceCtorEq, Int.reduceToNat]
    · rintro ⟨fu, d, acc⟩ ⟨i1, i2, i3, i4, i5⟩
      simp only at i1 i2 i3 i4 i5
      unfold q44
      obtain ⟨fu, rfl⟩ : ∃ k, fu = k + 1 := ⟨fu - 1, by omega⟩
      rw [qdz] at i3
      have hcap : qp (acc.length + 1) 64 := capN (by omega)
      have j1 : (qb2 rec d).1.good := (qfx hm d).1 i1
      have j2 : rest (qb2 rec d).1 ≤ rest d := (qfx hm d).2.1
      by_cases h0 : acc = []
      · subst h0
        simp only [encs, qbu, qbv]
        repeat' (first | refine ql ?_ | refine qk ?_ | ((first | refine qn ?_ | refine qm ?_ | refine qs ?_ | refine qi ?_ | refine qh ?_ | refine qbdc ?_ | refine qdt (qj8 hm ih _ i1 i2) rfl ?_); simp only [go_sem, ↓reduceIte, Nat.reduceEqDiff, Nat.reduceAdd, Nat.reduceSub, Nat.reduceMul, Nat.reduceLT, Nat.reduceLeDiff, reduceCtorEq, Int.reduceToNat]) | ((first | refine qf ?_ ?_ | refine qe ?_ ?_) <;> intro hc <;> simp only [hc, go_sem, ↓reduceIte, Nat.reduceEqDiff, Nat.reduceAdd, Nat.reduceSub, Nat.reduceMul, Nat.reduceLT, Nat.reduceLeDiff, reduceCtorEq, Int.reduceToNat] <;> (try simp only [qb, qa, decide_eq_true_eq, decide_eq_false_iff_not, Bool.and_eq_true] at hc)) | refine And.intro (by first | assumption | omega | (have := qg (by assumption); omega) | (unfold qp; omega)) ?_ | fail)
        · have hb : begT d = true := by assumption
          have hs : (qb2 rec d).2.isSome = false := by assumption
          rw [if_pos hb, if_neg (by rw [hs]; simp)] at i3
          subst i3
          exact ⟨rfl, by rw [qd3]; rfl⟩
        · have hb : begT d = true := by assumption
          have hs : (qb2 rec d).2.isSome = true := by assumption
          rw [if_pos hb, if_pos hs] at i3
          have hlt := qgb hm hs
          refine qbn (fu, (qb2 rec d).1, [] ++ [(qb2 rec d).2.getD N0]) [0, 1, 2, 4] ⟨⟨j1, by simp only; omega, i3, by simp only; omega, ?_⟩, by simp only; omega⟩ rfl (by simp) ?_ ?_ ?_
          · simp only [List.length_append, List.length_cons, List.length_nil]; omega
          all_goals simp only [q44, ← qz, qct, qcs, List.nil_append, encs, qdg, qdh]
          all_goals simp only [go_sem, ↓reduceIte, Nat.reduceEqDiff, Nat.reduceAdd, Nat.reduceSub, Nat.reduceMul, Nat.reduceLT, Nat.reduceLeDiff, reduceCtorEq, Int.reduceToNat]
        · have hb : begT d = false := by assumption
          rw [if_neg (by rw [hb]; simp)] at i3
          subst i3
          simp only [Option.map_some, Option.getD_some, Option.isSome_some, enc, encs, qh1, and_self]
      · have hne := qci h0
        simp only [qb4 hne, qb3 hne, qbz]
        repeat' (first | refine ql ?_ | refine qk ?_ | ((first | refine qn ?_ | refine qm ?_ | refine qs ?_ | refine qi ?_ | refine qh ?_ | refine qbdc ?_ | refine qdt (qj8 hm ih _ i1 i2) rfl ?_); simp only [go_sem, ↓reduceIte, Nat.reduceEqDiff, Nat.reduceAdd, Nat.reduceSub, Nat.reduceMul, Nat.reduceLT, Nat.reduceLeDiff, reduceCtorEq, Int.reduceToNat]) | ((first | refine qf ?_ ?_ | refine qe ?_ ?_) <;> intro hc <;> simp only [hc, go_sem, ↓reduceIte, Nat.reduceEqDiff, Nat.reduceAdd, Nat.reduceSub, Nat.reduceMul, Nat.reduceLT, Nat.reduceLeDiff, reduceCtorEq, Int.reduceToNat] <;> (try simp only [qb, qa, decide_eq_true_eq, decide_eq_false_iff_not, Bool.and_eq_true] at hc)) | refine And.intro (by first | assumption | omega | (have := qg (by assumption); omega) | (unfold qp; omega)) ?_ | fail)
        · have hb : begT d = true := by assumption
          have hs : (qb2 rec d).2.isSome = false := by assumption
          rw [if_pos hb, if_neg (by rw [hs]; simp)] at i3
          subst i3
          exact ⟨rfl, by rw [qd3]; rfl⟩
        · have hb : begT d = true := by assumption
          have hs : (qb2 rec d).2.isSome = true := by assumption
          rw [if_pos hb, if_pos hs] at i3
          have hlt := qgb hm hs
          refine qbn (fu, (qb2 rec d).1, acc ++ [(qb2 rec d).2.getD N0]) [0, 1, 2, 5] ⟨⟨j1, by simp only; omega, i3, by simp only; omega, ?_⟩, by simp only; omega⟩ rfl (by simp) ?_ ?_ ?_
          · simp only [List.length_append, List.length_cons, List.length_nil]; omega
          all_goals simp only [q44, ← qz, qct, qcs, List.nil_append, encs, qdg, qdh]
          all_goals simp only [go_sem, ↓reduceIte, Nat.reduceEqDiff, Nat.reduceAdd, Nat.reduceSub, Nat.reduceMul, Nat.reduceLT, Nat.reduceLeDiff, reduceCtorEq, Int.reduceToNat]
          rw [qz, qcb, qc5]; exact ⟨rfl, rfl⟩
        · have hb : begT d = false := by assumption
          rw [if_neg (by rw [hb]; simp)] at i3
          subst i3
          simp only [Option.map_some, Option.getD_some, Option.isSome_some, enc, encs, qh1, and_self]
  · repeat' (first | refine ql ?_ | refine qk ?_ | ((first | refine qn ?_ | refine qm ?_ | refine qs ?_ | refine qi ?_ | refine qh ?_); simp (disch := first | omega | (simp only [List.length_set, List.length_append, List.length_cons, List.length_nil]; done) | (simp only [List.length_set, List.length_append, List.length_cons, List.length_nil]; omega)) only [hk, go_sem, ↓reduceIte, Nat.reduceEqDiff, Nat.reduceAdd, Nat.reduceSub, Nat.reduceMul, Nat.reduceLT, Nat.reduceLeDiff, reduceCtorEq, Int.reduceToNat]) | ((first | refine qf ?_ ?_ | refine qe ?_ ?_) <;> intro hc <;> simp only [hc, go_sem, ↓reduceIte, Nat.reduceEqDiff, Nat.reduceAdd, Nat.reduceSub, Nat.reduceMul, Nat.reduceLT, Nat.reduceLeDiff, reduceCtorEq, Int.reduceToNat] <;> (try simp only [qb, qa, decide_eq_true_eq, decide_eq_false_iff_not, Bool.and_eq_true] at hc)) | refine And.intro (by first | assumption | omega | (have := qg (by assumption); omega) | (unfold qp; omega)) ?_ | fail | ((first | refine qdv ?_ | refine qdt (qj8 hm ih c hg hr) rfl ?_); simp only [go_sem, ↓reduceIte, Nat.reduceEqDiff, Nat.reduceAdd, Nat.reduceSub, Nat.reduceMul, Nat.reduceLT, Nat.reduceLeDiff, reduceCtorEq, Int.reduceToNat]))
    rw [qce, if_neg hk]; exact ⟨rfl, rfl⟩
end
theorem qvd {f : Nat} (ih : ∀ c, c.good → rest c < f → qcp Tryz.prog 47 (curE c) (curE (qca f c).1) [.ptr 0 0] (resP (qca f c).2)) (c : K) (hg : c.good) (hr : rest c < f + 1) :
    qcp Tryz.prog 47 (curE c) (curE (qca (f + 1) c).1) [.ptr 0 0] (resP (qca (f + 1) c).2) := by
  have hm := qg3 f
  have g1 : (qj c).1.good := (qx c).1 hg
  have hr1 : rest (qj c).1 ≤ f := by have := (qx c).2.1; omega
  have hrow := qbnp hm ih _ g1 hr1
  have mrow := qqj hm (qj c).1
  have lrow := qv9 hm (c := (qj c).1)
  have hpa : qca (f + 1) c = if (qj c).2 = true then
      if (qce (qca f) (qj c).1).2.isSome = true then
        if (qt (qce (qca f) (qj c).1).1 [45, 62]).2 = true then
          (qch (qca f (qt (qce (qca f) (qj c).1).1 [45, 62]).1).1, (qca f (qt (qce (qca f) (qj c).1).1 [45, 62]).1).2.map (qh2 ((qce (qca f) (qj c).1).2.getD N0)))
        else (qch (qce (qca f) (qj c).1).1, (qce (qca f) (qj c).1).2)
      else (qch (qce (qca f) (qj c).1).1, none)
    else ((qj c).1, none) := by rw [qca]
  rw [hpa]
  clear hpa
  generalize qce (qca f) (qj c).1 = r at *
  have g2 : r.1.good := mrow.1 g1
  have g3 : (qt r.1 [45, 62]).1.good := (q8 _ _).1 g2
  have g4 : (qca f (qt r.1 [45, 62]).1).1.good := (hm _).1 g3
  have hlt : r.2.isSome = true → rest (qt r.1 [45, 62]).1 < f := fun h => by
    have := lrow h
    have := (q8 r.1 [45, 62]).2.1
    omega
  refine qbe c0by 1 (by simp) (by simp) ?_
  repeat' (first | refine ql ?_ | ((first | refine qn ?_ | refine qm ?_ | refine qi ?_ | refine qh ?_ | refine qht ?_ | refine qdt hrow rfl ?_ | refine qfh g2.ok ?_ | refine qdt (ih _ g3 (hlt (by assumption))) rfl ?_ | refine qfz g4.2.2 ?_ | refine qfz g3.2.2 ?_ | refine qfz g2.2.2 ?_ | refine qu3 ?_ | refine qvs ?_); simp only [go_sem, ↓reduceIte, Nat.reduceEqDiff, Nat.reduceAdd, Nat.reduceSub, Nat.reduceMul, Nat.reduceLT, Nat.reduceLeDiff, reduceCtorEq, Int.reduceToNat]) | ((first | refine qf ?_ ?_ | refine qe ?_ ?_) <;> intro hc <;> simp only [hc, go_sem, ↓reduceIte, Nat.reduceEqDiff, Nat.reduceAdd, Nat.reduceSub, Nat.reduceMul, Nat.reduceLT, Nat.reduceLeDiff, reduceCtorEq, Int.reduceToNat] <;> (try simp only [qb, qa, decide_eq_true_eq, decide_eq_false_iff_not, Bool.and_eq_true] at hc)) | refine And.intro (by first | assumption | omega | (have := qg (by assumption); omega) | (unfold qp; omega)) ?_ | fail)
  all_goals (try simp only [qdl (c := r.1) (by assumption)])
  all_goals (try simp only [q2y (r := r.2) (by assumption)])
  all_goals (try simp only [qbdl, qza])
  all_goals (simp only [*, qd3, if_true, if_false, reduceIte, Bool.false_eq_true, Option.getD_none, Option.getD_some, Option.isSome_none, Option.isSome_some, and_self, true_and, and_true]; try rfl)
theorem q1a (f : Nat) : ∀ c : K, c.good → rest c < f → qcp Tryz.prog 47 (curE c) (curE (qca f c).1) [.ptr 0 0] (resP (qca f c).2) := by
  induction f with
  | zero => exact fun c _ h => absurd h (by omega)
  | succ f ih => exact qvd ih
end Go.Proofs.YtmekebfgmjaenaaGreat
