/- Texts of this proof, joined. -/
import Derived.Test.YtjigahnncojikaaPav
import Derived.Test.YtjigahnncojikaaPax

/- the cursor: in other places; texts; trees that are whole -/
namespace Go.Proofs.Ytjigahnncojikaa
open Go Go.RowKit Go.V
set_option linter.unusedVariables false
set_option linter.unusedSimpArgs false

section
variable {P : Program} {f : FuncId} {e e' : Ent} {L : List Ent} {args0 args : List AV} {r : AV} {Q : List Ent → VO → Prop}
/-- The call's entry lies at place k. -/
theorem vmeth_at (k : Nat) (h : VMeth P f e e' args0 r) (hk : L[k]? = some e) (hb : e.bd 0 = true) (hb' : e'.bd 0 = true) (ha : AV.bds 1 args0 = true) (hr : r.bd 0 = true) (hs : AV.rens (sg [k]) args0 = args) (hq : r.wf → Q (L.set k e') (.val r)) :
    VApp P L (.fn f [] []) args Q :=
  vapp_fn (first := []) (caps := []) (by
    simp only [List.nil_append, List.append_nil]
    rw [← hs]
    have hlt : k < L.length := (List.getElem?_eq_some_iff.1 hk).1
    refine vcalls_sel (H0 := [e]) [k] (h.mono' (Q' := fun H' o => (H' = [e'] ∧ o = .val r) ∧ r.wf) fun H' o hw ho => ⟨ho, by have := ho.2; subst this; exact hw⟩) (by simp) (by simpa using hlt) rfl ?_ ha ?_
    · intro j e2 hj
      obtain rfl : j = 0 := by have := (List.getElem?_eq_some_iff.1 hj).1; simp at this; omega
      simp only [List.getElem?_cons_zero, Option.some.injEq] at hj
      subst hj
      exact .inr ⟨Ent.bd_le (Nat.zero_le _) _ hb, by rw [Ent.ren_same (m := 0) (fun i hi => by omega) _ hb]; exact hk⟩
    · rintro H1 o ⟨⟨rfl, rfl⟩, hw⟩
      have h1 : e'.ren (sg' [k] L.length) = e' := Ent.ren_same (m := 0) (fun i hi => by omega) _ hb'
      have h2 : r.ren (sg' [k] L.length) = r := ren_same (m := 0) (fun i hi => by omega) _ hr
      simp only [List.length_cons, List.length_nil, List.take_succ_cons, List.take_zero, List.map_cons, List.map_nil, setAll, h1, VO.ren, h2, List.drop_succ_cons, List.drop_nil, List.append_nil]
      exact hq hw)
/-- A call that makes an entry. -/
theorem vnew_app (h : VCalls P f [] args fun H' o => H' = [e] ∧ o = .val (.ptr 0 0)) (hb : e.bd 0 = true) (ha : AV.bds 0 args = true) (hq : Q (L ++ [e]) (.val (.ptr L.length 0))) : VApp P L (.fn f [] []) args Q :=
  vapp_fn (first := []) (caps := []) (by
    simp only [List.nil_append, List.append_nil]
    have hs : AV.rens (sg []) args = args := rens_same (m := 0) (fun i hi => by omega) _ ha
    rw [← hs]
    refine vcalls_sel (H0 := []) [] h (by simp) (by simp) rfl (fun j e2 hj => by simp at hj) ha ?_
    rintro H1 o ⟨rfl, rfl⟩
    have h1 : e.ren (sg' [] L.length) = e := Ent.ren_same (m := 0) (fun i hi => by omega) _ hb
    simp only [List.length_nil, List.take_zero, List.map_nil, setAll, List.drop_zero, List.map_cons, h1, VO.ren, AV.ren, sg', Nat.not_lt_zero, if_false, Nat.sub_zero, Nat.add_zero]
    exact hq)
end
theorem lexV_len (s : List UInt8) : (lexV s).1.length ≤ 1048577 ∧ (lexV s).1.length ≤ s.length + 1 := by
  by_cases h : 1048576 < (s.length : Int)
  · rw [lexV_big h]; simp
  · have hll : (lexG s (skipW s)).1.length ≤ s.length := by have := lexF_len (s := s) (s.length - skipW s) (skipW s); unfold lexG; omega
    by_cases he : (lexG s (skipW s)).2.2 = 0
    · rw [lexV_ok h he]; simp only [List.length_append, List.length_cons, List.length_nil]; omega
    · rw [lexV_bad h he]; simp
theorem depth_law' {n : N} (h : sz n ≤ 1000000) : (walkW (fun (k : Int) l _ => (if l > k then l else k, true)) n 1 0).1 = depR n := by
  show (walkW dpF n 1 0).1 = depR n
  rw [walk_dp n 1 0 (by omega) (by omega), depR_dp n (by omega)]
  have := dp_eq n
  simp only; omega
end Go.Proofs.Ytjigahnncojikaa

/- types: what is read (plain) -/
namespace Go.Proofs.Ytjigahnncojikaa
open Go Go.RowKit Go.V
set_option linter.unusedVariables false
set_option linter.unusedSimpArgs false

/-! The cursor: it has gone on, if it has gone; a failure stays. -/
def K.good (c : K) : Prop := c.at' ≤ c.l.length ∧ c.l.length ≤ 1048577 ∧ c.nest ≤ 200
def rest (c : K) : Nat := c.l.length - c.at'
theorem K.good.ok {c : K} (h : c.good) : c.ok := ⟨h.1, Nat.le_trans h.2.1 (by unfold maxLen; omega)⟩
theorem K.good.rest {c : K} (h : c.good) : c.l.length - c.at' ≤ 1048577 := by have := h.2.1; omega
theorem capN {n : Nat} (h : n ≤ 1048580) : capOK n 64 := by unfold capOK; omega
def Mon (c c' : K) : Prop := (c.good → c'.good) ∧ rest c' ≤ rest c ∧ (c.err ≠ 0 → c'.err ≠ 0)
theorem Mon.refl (c : K) : Mon c c := ⟨id, Nat.le_refl _, id⟩
theorem Mon.trans {a b c : K} (h : Mon a b) (k : Mon b c) : Mon a c := ⟨fun g => k.1 (h.1 g), Nat.le_trans k.2.1 h.2.1, fun e => k.2.2 (h.2.2 e)⟩
def em (c : K) : Nat := if c.err = 0 then rest c + 1 else 0
theorem Mon.em {c c' : K} (h : Mon c c') : em c' ≤ em c := by
  unfold Go.Proofs.Ytjigahnncojikaa.em
  have := h.2.1
  split
  · split
    · omega
    · rename_i h1 h2; exact absurd h1 (h.2.2 h2)
  · omega
theorem em_le (c : K) : em c ≤ rest c + 1 := by unfold em; split <;> omega
theorem em_err {c : K} (h : c.err ≠ 0) : em c = 0 := if_neg h
theorem em_ok {c : K} (h : c.err = 0) : em c = rest c + 1 := if_pos h
theorem fail_err (c : K) {e : Int} : (failK c e).err ≠ 0 := by
  unfold failK
  split
  · simp only; split
    · simp
    · assumption
  · assumption
theorem mon_next (c : K) : Mon c (nextK c) := by
  unfold nextK
  split
  · split
    · exact ⟨fun h => ⟨by simp only; omega, h.2⟩, by unfold rest; simp only; omega, id⟩
    · exact Mon.refl c
  · exact Mon.refl c
theorem mon_fail (c : K) (e : Int) : Mon c (failK c e) := by
  refine ⟨?_, ?_, fun _ => fail_err c⟩ <;> unfold failK <;> split <;> first | exact id | exact Nat.le_refl _
theorem mon_enter (c : K) : Mon c (enterK c).1 := by
  unfold enterK
  split
  · split
    · rename_i h1; exact ⟨fun h => ⟨h.1, h.2.1, by simp only; omega⟩, Nat.le_refl _, id⟩
    · exact mon_fail c 2
  · exact Mon.refl c
theorem mon_leave (c : K) : Mon c (leaveK c) := by
  unfold leaveK
  split
  · split
    · exact ⟨fun h => ⟨h.1, h.2.1, by have := h.2.2; simp only; omega⟩, Nat.le_refl _, id⟩
    · exact Mon.refl c
  · exact Mon.refl c
theorem mon_take (c : K) (x : List UInt8) : Mon c (takeK c x).1 := by
  unfold takeK
  split
  · exact mon_next c
  · exact Mon.refl c
theorem mon_want (c : K) (x : List UInt8) : Mon c (wantK c x).1 := by
  unfold wantK
  split
  · exact mon_next c
  · exact mon_fail c 5
theorem peek_there {c : K} (h : (peekK c).kind ≠ 0) : c.err = 0 ∧ c.at' < c.l.length := by
  unfold peekK at h
  split at h
  · rename_i h1
    split at h
    · rename_i h2; exact ⟨h1, h2⟩
    · exact absurd rfl h
  · exact absurd rfl h
theorem rest_next {c : K} (h : (peekK c).kind ≠ 0) : rest (nextK c) + 1 = rest c := by
  obtain ⟨h1, h2⟩ := peek_there h
  rw [nextK_in h1 (by omega)]
  unfold rest; simp only; omega
theorem isK_kind {c : K} {x : List UInt8} (h : isK c x = true) : (peekK c).kind ≠ 0 := by
  simp only [isK, wordW, Bool.and_eq_true, Bool.or_eq_true, decide_eq_true_eq] at h
  omega
theorem isK_err {c : K} {x : List UInt8} (h : isK c x = true) : c.err = 0 := by
  simp only [isK, Bool.and_eq_true, decide_eq_true_eq] at h
  exact h.1
theorem enter_err {c : K} (h : (enterK c).2 = true) : c.err = 0 ∧ (enterK c).1.err = 0 ∧ (enterK c).1 = { c with nest := c.nest + 1 } := by
  unfold enterK at h ⊢
  split at h
  · rename_i h1
    split at h
    · rename_i h2; rw [if_pos h1, if_pos h2]; exact ⟨h1, h1, rfl⟩
    · cases h
  · cases h
theorem enter_peek {c : K} (h : (enterK c).2 = true) : peekK (enterK c).1 = peekK c := by rw [(enter_err h).2.2]; rfl
theorem enter_is {c : K} {x : List UInt8} (h : (enterK c).2 = true) : isK (enterK c).1 x = isK c x := by rw [(enter_err h).2.2]; rfl
theorem enter_bad {c : K} (h : (enterK c).2 = false) : (enterK c).1.err ≠ 0 := by
  unfold enterK at h ⊢
  split at h
  · rename_i h1
    split at h
    · cases h
    · rename_i h2; rw [if_pos h1, if_neg h2]; exact fail_err c
  · rename_i h1; rw [if_neg h1]; exact h1
theorem want_bad {c : K} {x : List UInt8} (h : (wantK c x).2 = false) : (wantK c x).1.err ≠ 0 := by
  unfold wantK at h ⊢
  split at h
  · cases h
  · rename_i h1; rw [if_neg h1]; exact fail_err c
theorem leave_bad {c : K} (h : c.err ≠ 0) : leaveK c = c := if_neg h
theorem isK_bad {c : K} {x : List UInt8} (h : c.err ≠ 0) : isK c x = false := by
  simp only [isK, decide_eq_false h, Bool.false_and]
theorem want_err {c : K} {x : List UInt8} (h : c.err ≠ 0) : wantK c x = (c, false) := by
  rw [wantK, if_neg (by rw [isK_bad h]; simp), failK_err h]
theorem take_no {c : K} {x : List UInt8} (h : c.err ≠ 0) : takeK c x = (c, false) := takeK_f (isK_bad h)
theorem wantK_is {c : K} {x : List UInt8} (h : isK c x = true) : wantK c x = (nextK c, true) := if_pos h

/-! Types: the program. -/
def begT (c : K) : Bool := decide ((peekK c).kind = 1) || decide ((peekK c).kind = 2) || isK c [40]
def nameN (c : K) (k : Int) (ks : List N) : N := .mk k (peekK c).pos 0 (peekK c).text ks
def typAtom (rec : K → K × Option N) (c : K) : K × Option N :=
  if (peekK c).kind = 1 then (nextK c, some (nameN c 1 []))
  else if (peekK c).kind = 2 then (nextK c, some (nameN c 2 []))
  else if isK c [40] = true then
    if (enterK c).2 = true then
      if (rec (nextK (enterK c).1)).2.isSome = true then
        (leaveK (wantK (rec (nextK (enterK c).1)).1 [41]).1, if (wantK (rec (nextK (enterK c).1)).1 [41]).2 = true then (rec (nextK (enterK c).1)).2 else none)
      else (leaveK (rec (nextK (enterK c).1)).1, none)
    else ((enterK c).1, none)
  else (failK c 5, none)
def typKids (rec : K → K × Option N) : Nat → K → List N → K × Option (List N)
  | 0, c, acc => (c, none)
  | f + 1, c, acc =>
    if begT c = true then
      if (typAtom rec c).2.isSome = true then typKids rec f (typAtom rec c).1 (acc ++ [(typAtom rec c).2.getD N0])
      else ((typAtom rec c).1, none)
    else (c, some acc)
def typRow (rec : K → K × Option N) (c : K) : K × Option N :=
  if (peekK c).kind = 2 then ((typKids rec (rest c + 1) (nextK c) []).1, (typKids rec (rest c + 1) (nextK c) []).2.map (nameN c 2))
  else typAtom rec c
def arrowN (n m : N) : N := .mk 2 n.pos 0 [45, 62] [n, m]
def typAt : Nat → K → K × Option N
  | 0, c => (c, none)
  | f + 1, c =>
    if (enterK c).2 = true then
      if (typRow (typAt f) (enterK c).1).2.isSome = true then
        if (takeK (typRow (typAt f) (enterK c).1).1 [45, 62]).2 = true then
          (leaveK (typAt f (takeK (typRow (typAt f) (enterK c).1).1 [45, 62]).1).1, (typAt f (takeK (typRow (typAt f) (enterK c).1).1 [45, 62]).1).2.map (arrowN ((typRow (typAt f) (enterK c).1).2.getD N0)))
        else (leaveK (typRow (typAt f) (enterK c).1).1, (typRow (typAt f) (enterK c).1).2)
      else (leaveK (typRow (typAt f) (enterK c).1).1, none)
    else ((enterK c).1, none)
section
variable {rec : K → K × Option N} (hm : ∀ c, Mon c (rec c).1)
include hm
theorem mon_typAtom (c : K) : Mon c (typAtom rec c).1 := by
  unfold typAtom
  split
  · exact mon_next c
  · split
    · exact mon_next c
    · split
      · split
        · have h1 := ((mon_enter c).trans (mon_next _)).trans (hm _)
          split
          · exact (h1.trans (mon_want _ _)).trans (mon_leave _)
          · exact h1.trans (mon_leave _)
        · exact mon_enter c
      · exact mon_fail c 5
theorem typAtom_less {c : K} (h : (typAtom rec c).2.isSome = true) : rest (typAtom rec c).1 < rest c := by
  unfold typAtom at h ⊢
  split at h
  · rename_i h1; rw [if_pos h1]; have := rest_next (c := c) (by omega); simp only; omega
  · rename_i h1
    rw [if_neg h1]
    split at h
    · rename_i h2; rw [if_pos h2]; have := rest_next (c := c) (by omega); simp only; omega
    · rename_i h2
      rw [if_neg h2]
      split at h
      · rename_i hk
        rw [if_pos hk]
        split at h
        · rename_i he
          rw [if_pos he]
          have hp := rest_next (c := (enterK c).1) (by rw [enter_peek he]; exact isK_kind hk)
          have h0 := (mon_enter c).2.1
          have h1 := (hm (nextK (enterK c).1)).2.1
          split at h
          · rename_i hr
            rw [if_pos hr]
            have h2 := (mon_want (rec (nextK (enterK c).1)).1 [41]).2.1
            have h3 := (mon_leave (wantK (rec (nextK (enterK c).1)).1 [41]).1).2.1
            simp only; omega
          · cases h
        · cases h
      · cases h
theorem mon_typKids : ∀ (f : Nat) (c : K) (acc : List N), Mon c (typKids rec f c acc).1
  | 0, c, acc => Mon.refl c
  | f + 1, c, acc => by
    rw [typKids]
    split
    · split
      · exact (mon_typAtom hm c).trans (mon_typKids f _ _)
      · exact mon_typAtom hm c
    · exact Mon.refl c
theorem mon_typRow (c : K) : Mon c (typRow rec c).1 := by
  unfold typRow
  split
  · exact (mon_next c).trans (mon_typKids hm _ _ _)
  · exact mon_typAtom hm c
theorem typRow_less {c : K} (h : (typRow rec c).2.isSome = true) : rest (typRow rec c).1 < rest c := by
  unfold typRow at h ⊢
  split at h
  · rename_i h1
    rw [if_pos h1]
    have := rest_next (c := c) (by omega)
    have := (mon_typKids hm (rest c + 1) (nextK c) []).2.1
    simp only; omega
  · rename_i h1
    rw [if_neg h1]
    exact typAtom_less hm h
end
theorem mon_typAt : ∀ (f : Nat) (c : K), Mon c (typAt f c).1
  | 0, c => Mon.refl c
  | f + 1, c => by
    have hr := (mon_enter c).trans (mon_typRow (mon_typAt f) (enterK c).1)
    rw [typAt]
    split
    · split
      · split
        · exact ((hr.trans (mon_take _ _)).trans (mon_typAt f _)).trans (mon_leave _)
        · exact hr.trans (mon_leave _)
      · exact hr.trans (mon_leave _)
    · exact mon_enter c
theorem beg_err {c : K} (h : begT c = true) : c.err = 0 := by
  simp only [begT, Bool.or_eq_true, decide_eq_true_eq] at h
  rcases h with (h | h) | h
  · exact (peek_there (by omega)).1
  · exact (peek_there (by omega)).1
  · exact isK_err h
theorem beg_bad {c : K} (h : c.err ≠ 0) : begT c = false := by
  cases hb : begT c with
  | false => rfl
  | true => exact absurd (beg_err hb) h
end Go.Proofs.Ytjigahnncojikaa

/- types: the program -/
set_option maxRecDepth 4000
namespace Go.Proofs.Ytjigahnncojikaa
open Go Go.RowKit Go.V
set_option linter.unusedVariables false
set_option linter.unusedSimpArgs false

def resP (r : Option N) : AV := .tup [enc (r.getD N0), .bool r.isSome]
attribute [go_sem] resP
theorem resP_bd (k : Nat) (r : Option N) : (resP r).bd k = true := by simp only [resP, AV.bd, AV.bds, enc_bd, Bool.and_true]
theorem m_app {P : Program} {f : FuncId} {c c' : K} {L : List Ent} {args : List AV} {r : Option N} {Q : List Ent → VO → Prop} (h : VMeth P f (curE c) (curE c') args (resP r)) (ha : AV.bds 1 args = true) (hq : Q (curE c' :: L) (.val (resP r))) : VApp P (curE c :: L) (.fn f [] []) args Q :=
  vmeth_app h (curE_bd _ _) (curE_bd _ _) ha (resP_bd _ _) fun _ => hq
theorem enc_z : AV.agg [.int .i64 0, .int .i64 0, .int .i64 0, .str [], .sl 5 []] = enc N0 := by simp [N0, enc, encs]
/-- The tree, or nothing. -/
def tellN (n : N) (b : Bool) : Option N := if b = true then some n else none
theorem tell_f (n : N) : tellN n false = none := rfl
theorem tell_is {r : Option N} {b : Bool} (h : r.isSome = true) : tellN (r.getD N0) b = if b = true then r else none := by
  cases r with
  | none => cases h
  | some n => rfl
theorem typ_told (c : K) (n : N) (b : Bool) : VMeth Try.prog 43 (curE c) (curE c) [.ptr 0 0, enc n, .bool b] (resP (tellN n b)) := by
  refine vcalls_of c0s 1 (by simp) (by simp) ?_
  repeat' (first | refine vi_seq ?_ | refine vi_block ?_ | refine vi_scope ?_ | ((first | refine vi_reg ?_ | refine vi_regE (by rfl) ?_ | refine vi_regD ?_ | refine vi_label ?_ | refine vi_goto ?_ | refine vi_ret ?_ | refine vi_exit ?_ | refine vi_skip ?_ | refine vi_cond ?_); simp only [go_sem, ↓reduceIte, Nat.reduceEqDiff, Nat.reduceAdd, Nat.reduceSub, Nat.reduceMul, Nat.reduceLT, Nat.reduceLeDiff, reduceCtorEq, Int.reduceToNat]) | ((first | refine gd_caseb ?_ ?_ | refine cnd_caseb ?_ ?_) <;> intro hc <;> simp only [hc, go_sem, ↓reduceIte, Nat.reduceEqDiff, Nat.reduceAdd, Nat.reduceSub, Nat.reduceMul, Nat.reduceLT, Nat.reduceLeDiff, reduceCtorEq, Int.reduceToNat] <;> (try simp only [bool_not_true, bool_not_false, decide_eq_true_eq, decide_eq_false_iff_not, Bool.and_eq_true] at hc)) | refine And.intro (by first | assumption | omega | (have := len_pos (by assumption); omega) | (unfold capOK; omega)) ?_ | ((first | simp (disch := omega) only [encs_getN] | simp (disch := omega) only [wrapS]); (try simp only [go_sem, ↓reduceIte, Nat.reduceEqDiff, Nat.reduceAdd, Nat.reduceSub, Nat.reduceMul, Nat.reduceLT, Nat.reduceLeDiff, reduceCtorEq, Int.reduceToNat])))
  all_goals (unfold tellN; simp_all [enc_z])
theorem a_told {c : K} {L : List Ent} {n : N} {b : Bool} {Q : List Ent → VO → Prop} (hq : Q (curE c :: L) (.val (resP (tellN n b)))) : VApp Try.prog (curE c :: L) (.fn 43 [] []) [.ptr 0 0, enc n, .bool b] Q := m_app (typ_told c n b) (by simp only [AV.bds, AV.bd, enc_bd]; rfl) hq
theorem a_tellArrow {c : K} {L : List Ent} {n m : N} {b : Bool} {Q : List Ent → VO → Prop} (hq : Q (curE c :: L) (.val (resP (tellN (arrowN n m) b)))) :
    VApp Try.prog (curE c :: L) (.fn 43 [] []) [.ptr 0 0, .agg [.int .i64 2, .int .i64 n.pos, .int .i64 0, .str [45, 62], .sl 5 [enc n, enc m]], .bool b] Q := by
  have h := a_told (n := arrowN n m) hq
  simpa only [arrowN, enc, encs] using h
theorem tell_map {r : Option N} {g : N → N} : tellN (g (r.getD N0)) r.isSome = r.map g := by cases r <;> rfl
theorem tell_arrow {r : Option N} {n : N} : tellN (arrowN n (r.getD N0)) r.isSome = r.map (arrowN n) := tell_map
theorem takeK_same' {c : K} {x : List UInt8} (h : (takeK c x).2 = false) : (takeK c x).1 = c := by
  unfold takeK at *
  split at h
  · cases h
  · rename_i h1; rw [if_neg h1]
theorem typ_begins (c : K) : VMeth Try.prog 77 (curE c) (curE c) [.ptr 0 0] (.bool (begT c)) := by
  refine vcalls_of c0t 1 (by simp) (by simp) ?_
  repeat' (first | refine vi_seq ?_ | refine vi_block ?_ | refine vi_scope ?_ | ((first | refine vi_reg ?_ | refine vi_regE (by rfl) ?_ | refine vi_regD ?_ | refine vi_label ?_ | refine vi_goto ?_ | refine vi_ret ?_ | refine vi_exit ?_ | refine vi_skip ?_ | refine vi_cond ?_ | refine a_Peek ?_ | refine a_Is ?_); simp only [go_sem, ↓reduceIte, Nat.reduceEqDiff, Nat.reduceAdd, Nat.reduceSub, Nat.reduceMul, Nat.reduceLT, Nat.reduceLeDiff, reduceCtorEq, Int.reduceToNat]) | ((first | refine gd_caseb ?_ ?_ | refine cnd_caseb ?_ ?_) <;> intro hc <;> simp only [hc, go_sem, ↓reduceIte, Nat.reduceEqDiff, Nat.reduceAdd, Nat.reduceSub, Nat.reduceMul, Nat.reduceLT, Nat.reduceLeDiff, reduceCtorEq, Int.reduceToNat] <;> (try simp only [bool_not_true, bool_not_false, decide_eq_true_eq, decide_eq_false_iff_not, Bool.and_eq_true] at hc)) | refine And.intro (by first | assumption | omega | (have := len_pos (by assumption); omega) | (unfold capOK; omega)) ?_ | ((first | simp (disch := omega) only [encs_getN] | simp (disch := omega) only [wrapS]); (try simp only [go_sem, ↓reduceIte, Nat.reduceEqDiff, Nat.reduceAdd, Nat.reduceSub, Nat.reduceMul, Nat.reduceLT, Nat.reduceLeDiff, reduceCtorEq, Int.reduceToNat])))
  all_goals (unfold begT; simp_all)
theorem a_begT {c : K} {L : List Ent} {Q : List Ent → VO → Prop} (hq : Q (curE c :: L) (.val (.bool (begT c)))) : VApp Try.prog (curE c :: L) (.fn 77 [] []) [.ptr 0 0] Q := vmeth_app (typ_begins c) (curE_bd _ _) (curE_bd _ _) rfl rfl fun _ => hq
theorem encs_ne {l : List N} (h : l ≠ []) : encs l ≠ [] := by cases l with | nil => exact absurd rfl h | cons _ _ => simp [encs]
def rowSt (p : Int) (t : List UInt8) (c : K) (acc : List N) : AF × List Ent :=
  (⟨[(0, .ptr 0 0), (2, .ptr 1 0), (5, .ptr 2 0)], []⟩,
    curE c :: .blk [.int .i64 0, .int .i64 0, .int .i64 0, .str [], .nils] :: .blk [.int .i64 2, .int .i64 p, .int .i64 0, .str t, accV 3 (encs acc)] :: accE 5 (encs acc))
section
variable {rec : K → K × Option N} {b : Nat} (hm : ∀ c, Mon c (rec c).1) (ih : ∀ c, c.good → rest c < b → VMeth Try.prog 20 (curE c) (curE (rec c).1) [.ptr 0 0] (resP (rec c).2))
include hm ih
theorem typ_AtomAt (c : K) (hg : c.good) (hr : rest c ≤ b) : VMeth Try.prog 16 (curE c) (curE (typAtom rec c).1) [.ptr 0 0] (resP (typAtom rec c).2) := by
  have g1 : (enterK c).1.good := (mon_enter c).1 hg
  have g2 : (nextK (enterK c).1).good := (mon_next _).1 g1
  have g3 : (rec (nextK (enterK c).1)).1.good := (hm _).1 g2
  have g4 : (wantK (rec (nextK (enterK c).1)).1 [41]).1.good := (mon_want _ _).1 g3
  have hrr : isK c [40] = true → (enterK c).2 = true → rest (nextK (enterK c).1) < b := fun h1 h2 => by
    have := rest_next (c := (enterK c).1) (by rw [enter_peek h2]; exact isK_kind h1)
    have := (mon_enter c).2.1
    omega
  refine vcalls_of c0u 1 (by simp) (by simp) ?_
  repeat' (first | refine vi_seq ?_ | refine vi_block ?_ | refine vi_scope ?_ | ((first | refine vi_reg ?_ | refine vi_regE (by rfl) ?_ | refine vi_regD ?_ | refine vi_label ?_ | refine vi_goto ?_ | refine vi_ret ?_ | refine vi_exit ?_ | refine vi_skip ?_ | refine vi_cond ?_ | refine a_Peek ?_ | refine a_Is ?_ | refine a_Fail ?_ | refine a_Enter ?_ | refine a_Next hg.ok ?_ | refine a_Next g1.ok ?_ | refine m_app (ih _ g2 (hrr (by assumption) (by assumption))) rfl ?_ | refine a_Want g3.ok ?_ | refine a_Leave g4.2.2 ?_ | refine a_Leave g3.2.2 ?_ | refine a_told ?_); simp only [go_sem, ↓reduceIte, Nat.reduceEqDiff, Nat.reduceAdd, Nat.reduceSub, Nat.reduceMul, Nat.reduceLT, Nat.reduceLeDiff, reduceCtorEq, Int.reduceToNat]) | ((first | refine gd_caseb ?_ ?_ | refine cnd_caseb ?_ ?_) <;> intro hc <;> simp only [hc, go_sem, ↓reduceIte, Nat.reduceEqDiff, Nat.reduceAdd, Nat.reduceSub, Nat.reduceMul, Nat.reduceLT, Nat.reduceLeDiff, reduceCtorEq, Int.reduceToNat] <;> (try simp only [bool_not_true, bool_not_false, decide_eq_true_eq, decide_eq_false_iff_not, Bool.and_eq_true] at hc)) | refine And.intro (by first | assumption | omega | (have := len_pos (by assumption); omega) | (unfold capOK; omega)) ?_ | ((first | simp (disch := omega) only [encs_getN] | simp (disch := omega) only [wrapS]); (try simp only [go_sem, ↓reduceIte, Nat.reduceEqDiff, Nat.reduceAdd, Nat.reduceSub, Nat.reduceMul, Nat.reduceLT, Nat.reduceLeDiff, reduceCtorEq, Int.reduceToNat])))
  all_goals (try simp only [tell_is (r := (rec (nextK (enterK c).1)).2) (by assumption)])
  all_goals (try simp only [tell_f])
  all_goals (unfold typAtom nameN; simp only [*, enc_z, Int.reduceEq, if_true, if_false, reduceIte, Bool.false_eq_true, Option.getD_none, Option.getD_some, Option.isSome_none, Option.isSome_some, and_self, true_and, and_true]; try rfl)
theorem typ_row (c : K) (hg : c.good) (hr : rest c ≤ b) : VMeth Try.prog 57 (curE c) (curE (typRow rec c).1) [.ptr 0 0] (resP (typRow rec c).2) := by
  refine vcalls_of c0v 1 (by simp) (by simp) ?_
  by_cases hk : (peekK c).kind = 2
  · have g1 : (nextK c).good := (mon_next _).1 hg
    have hpa : typRow rec c = ((typKids rec (rest c + 1) (nextK c) []).1, (typKids rec (rest c + 1) (nextK c) []).2.map (nameN c 2)) := by rw [typRow, if_pos hk]
    rw [hpa]
    clear hpa
    generalize htg : typKids rec (rest c + 1) (nextK c) [] = tg
    have hmt : Mon (nextK c) tg.1 := htg ▸ mon_typKids hm _ _ _
    have hrn := rest_next (c := c) (by omega)
    repeat' (first | refine vi_seq ?_ | refine vi_block ?_ | refine vi_scope ?_ | ((first | refine vi_reg ?_ | refine vi_regE (by rfl) ?_ | refine vi_regD ?_ | refine vi_label ?_ | refine vi_goto ?_ | refine vi_ret ?_ | refine vi_exit ?_ | refine vi_skip ?_ | refine vi_cond ?_); simp (disch := first | omega | (simp only [List.length_set, List.length_append, List.length_cons, List.length_nil]; done) | (simp only [List.length_set, List.length_append, List.length_cons, List.length_nil]; omega)) only [hk, Int.reduceEq, go_sem, ↓reduceIte, Nat.reduceEqDiff, Nat.reduceAdd, Nat.reduceSub, Nat.reduceMul, Nat.reduceLT, Nat.reduceLeDiff, reduceCtorEq, Int.reduceToNat]) | ((first | refine gd_caseb ?_ ?_ | refine cnd_caseb ?_ ?_) <;> intro hc <;> simp only [hc, go_sem, ↓reduceIte, Nat.reduceEqDiff, Nat.reduceAdd, Nat.reduceSub, Nat.reduceMul, Nat.reduceLT, Nat.reduceLeDiff, reduceCtorEq, Int.reduceToNat] <;> (try simp only [bool_not_true, bool_not_false, decide_eq_true_eq, decide_eq_false_iff_not, Bool.and_eq_true] at hc)) | refine And.intro (by first | assumption | omega | (have := len_pos (by assumption); omega) | (unfold capOK; omega)) ?_ | ((first | simp (disch := omega) only [encs_getN] | simp (disch := omega) only [wrapS]); (try simp only [go_sem, ↓reduceIte, Nat.reduceEqDiff, Nat.reduceAdd, Nat.reduceSub, Nat.reduceMul, Nat.reduceLT, Nat.reduceLeDiff, reduceCtorEq, Int.reduceToNat])) | ((first | refine a_Peek ?_ | refine a_Next hg.ok ?_); simp only [go_sem, ↓reduceIte, Nat.reduceEqDiff, Nat.reduceAdd, Nat.reduceSub, Nat.reduceMul, Nat.reduceLT, Nat.reduceLeDiff, reduceCtorEq, Int.reduceToNat]))
    refine vi_loop (S := Nat × K × List N) (fun x => x.2.1.good ∧ rest x.2.1 ≤ b ∧ typKids rec x.1 x.2.1 x.2.2 = tg ∧ rest x.2.1 < x.1 ∧ x.2.2.length + rest x.2.1 ≤ 1048577)
      (fun x => rowSt (peekK c).pos (peekK c).text x.2.1 x.2.2) (fun x => rest x.2.1 + 1) ?_ ?_
    · refine at_of (rest c + 1, nextK c, []) [0, 1, 3] ⟨g1, by simp only; omega, htg, by simp only; omega, ?_⟩ rfl (by simp) ?_ ?_ ?_
      · have h9 := g1.rest
        unfold rest
        simp only [List.length_nil]
        omega
      all_goals simp only [rowSt, encs, accV_nil, accE_nil]
      all_goals simp only [go_sem, ↓reduceIte, Nat.reduceEqDiff, Nat.reduceAdd, Nat.reduceSub, Nat.reduceMul, Nat.reduceLT, Nat.reduceLeDiff, reduceCtorEq, Int.reduceToNat]
    · rintro ⟨fu, d, acc⟩ ⟨i1, i2, i3, i4, i5⟩
      simp only at i1 i2 i3 i4 i5
      unfold rowSt
      obtain ⟨fu, rfl⟩ : ∃ k, fu = k + 1 := ⟨fu - 1, by omega⟩
      rw [typKids] at i3
      have hcap : capOK (acc.length + 1) 64 := capN (by omega)
      have j1 : (typAtom rec d).1.good := (mon_typAtom hm d).1 i1
      have j2 : rest (typAtom rec d).1 ≤ rest d := (mon_typAtom hm d).2.1
      by_cases h0 : acc = []
      · subst h0
        simp only [encs, accV_nil, accE_nil]
        repeat' (first | refine vi_seq ?_ | refine vi_block ?_ | refine vi_scope ?_ | ((first | refine vi_reg ?_ | refine vi_regE (by rfl) ?_ | refine vi_regD ?_ | refine vi_label ?_ | refine vi_goto ?_ | refine vi_ret ?_ | refine vi_exit ?_ | refine vi_skip ?_ | refine vi_cond ?_ | refine a_begT ?_ | refine m_app (typ_AtomAt hm ih _ i1 i2) rfl ?_); simp only [go_sem, ↓reduceIte, Nat.reduceEqDiff, Nat.reduceAdd, Nat.reduceSub, Nat.reduceMul, Nat.reduceLT, Nat.reduceLeDiff, reduceCtorEq, Int.reduceToNat]) | ((first | refine gd_caseb ?_ ?_ | refine cnd_caseb ?_ ?_) <;> intro hc <;> simp only [hc, go_sem, ↓reduceIte, Nat.reduceEqDiff, Nat.reduceAdd, Nat.reduceSub, Nat.reduceMul, Nat.reduceLT, Nat.reduceLeDiff, reduceCtorEq, Int.reduceToNat] <;> (try simp only [bool_not_true, bool_not_false, decide_eq_true_eq, decide_eq_false_iff_not, Bool.and_eq_true] at hc)) | refine And.intro (by first | assumption | omega | (have := len_pos (by assumption); omega) | (unfold capOK; omega)) ?_ | ((first | simp (disch := omega) only [encs_getN] | simp (disch := omega) only [wrapS]); (try simp only [go_sem, ↓reduceIte, Nat.reduceEqDiff, Nat.reduceAdd, Nat.reduceSub, Nat.reduceMul, Nat.reduceLT, Nat.reduceLeDiff, reduceCtorEq, Int.reduceToNat])))
        · have hb : begT d = true := by assumption
          have hs : (typAtom rec d).2.isSome = false := by assumption
          rw [if_pos hb, if_neg (by rw [hs]; simp)] at i3
          subst i3
          exact ⟨rfl, by rw [enc_z]; rfl⟩
        · have hb : begT d = true := by assumption
          have hs : (typAtom rec d).2.isSome = true := by assumption
          rw [if_pos hb, if_pos hs] at i3
          have hlt := typAtom_less hm hs
          refine at_of (fu, (typAtom rec d).1, [] ++ [(typAtom rec d).2.getD N0]) [0, 1, 2, 4] ⟨⟨j1, by simp only; omega, i3, by simp only; omega, ?_⟩, by simp only; omega⟩ rfl (by simp) ?_ ?_ ?_
          · simp only [List.length_append, List.length_cons, List.length_nil]; omega
          all_goals simp only [rowSt, ← encs_snoc, accV_snoc, accE_snoc, List.nil_append, encs, accV_one, accE_one]
          all_goals simp only [go_sem, ↓reduceIte, Nat.reduceEqDiff, Nat.reduceAdd, Nat.reduceSub, Nat.reduceMul, Nat.reduceLT, Nat.reduceLeDiff, reduceCtorEq, Int.reduceToNat]
        · have hb : begT d = false := by assumption
          rw [if_neg (by rw [hb]; simp)] at i3
          subst i3
          simp only [Option.map_some, Option.getD_some, Option.isSome_some, enc, encs, nameN, and_self]
      · have hne := encs_ne h0
        simp only [accV_ne hne, accE_ne hne, encs_len]
        repeat' (first | refine vi_seq ?_ | refine vi_block ?_ | refine vi_scope ?_ | ((first | refine vi_reg ?_ | refine vi_regE (by rfl) ?_ | refine vi_regD ?_ | refine vi_label ?_ | refine vi_goto ?_ | refine vi_ret ?_ | refine vi_exit ?_ | refine vi_skip ?_ | refine vi_cond ?_ | refine a_begT ?_ | refine m_app (typ_AtomAt hm ih _ i1 i2) rfl ?_); simp only [go_sem, ↓reduceIte, Nat.reduceEqDiff, Nat.reduceAdd, Nat.reduceSub, Nat.reduceMul, Nat.reduceLT, Nat.reduceLeDiff, reduceCtorEq, Int.reduceToNat]) | ((first | refine gd_caseb ?_ ?_ | refine cnd_caseb ?_ ?_) <;> intro hc <;> simp only [hc, go_sem, ↓reduceIte, Nat.reduceEqDiff, Nat.reduceAdd, Nat.reduceSub, Nat.reduceMul, Nat.reduceLT, Nat.reduceLeDiff, reduceCtorEq, Int.reduceToNat] <;> (try simp only [bool_not_true, bool_not_false, decide_eq_true_eq, decide_eq_false_iff_not, Bool.and_eq_true] at hc)) | refine And.intro (by first | assumption | omega | (have := len_pos (by assumption); omega) | (unfold capOK; omega)) ?_ | ((first | simp (disch := omega) only [encs_getN] | simp (disch := omega) only [wrapS]); (try simp only [go_sem, ↓reduceIte, Nat.reduceEqDiff, Nat.reduceAdd, Nat.reduceSub, Nat.reduceMul, Nat.reduceLT, Nat.reduceLeDiff, reduceCtorEq, Int.reduceToNat])))
        · have hb : begT d = true := by assumption
          have hs : (typAtom rec d).2.isSome = false := by assumption
          rw [if_pos hb, if_neg (by rw [hs]; simp)] at i3
          subst i3
          exact ⟨rfl, by rw [enc_z]; rfl⟩
        · have hb : begT d = true := by assumption
          have hs : (typAtom rec d).2.isSome = true := by assumption
          rw [if_pos hb, if_pos hs] at i3
          have hlt := typAtom_less hm hs
          refine at_of (fu, (typAtom rec d).1, acc ++ [(typAtom rec d).2.getD N0]) [0, 1, 2, 5] ⟨⟨j1, by simp only; omega, i3, by simp only; omega, ?_⟩, by simp only; omega⟩ rfl (by simp) ?_ ?_ ?_
          · simp only [List.length_append, List.length_cons, List.length_nil]; omega
          all_goals simp only [rowSt, ← encs_snoc, accV_snoc, accE_snoc, List.nil_append, encs, accV_one, accE_one]
          all_goals simp only [go_sem, ↓reduceIte, Nat.reduceEqDiff, Nat.reduceAdd, Nat.reduceSub, Nat.reduceMul, Nat.reduceLT, Nat.reduceLeDiff, reduceCtorEq, Int.reduceToNat]
          rw [encs_snoc, encs_bd, encs_ren]; exact ⟨rfl, rfl⟩
        · have hb : begT d = false := by assumption
          rw [if_neg (by rw [hb]; simp)] at i3
          subst i3
          simp only [Option.map_some, Option.getD_some, Option.isSome_some, enc, encs, nameN, and_self]
  · repeat' (first | refine vi_seq ?_ | refine vi_block ?_ | refine vi_scope ?_ | ((first | refine vi_reg ?_ | refine vi_regE (by rfl) ?_ | refine vi_regD ?_ | refine vi_label ?_ | refine vi_goto ?_ | refine vi_ret ?_ | refine vi_exit ?_ | refine vi_skip ?_ | refine vi_cond ?_); simp (disch := first | omega | (simp only [List.length_set, List.length_append, List.length_cons, List.length_nil]; done) | (simp only [List.length_set, List.length_append, List.length_cons, List.length_nil]; omega)) only [hk, go_sem, ↓reduceIte, Nat.reduceEqDiff, Nat.reduceAdd, Nat.reduceSub, Nat.reduceMul, Nat.reduceLT, Nat.reduceLeDiff, reduceCtorEq, Int.reduceToNat]) | ((first | refine gd_caseb ?_ ?_ | refine cnd_caseb ?_ ?_) <;> intro hc <;> simp only [hc, go_sem, ↓reduceIte, Nat.reduceEqDiff, Nat.reduceAdd, Nat.reduceSub, Nat.reduceMul, Nat.reduceLT, Nat.reduceLeDiff, reduceCtorEq, Int.reduceToNat] <;> (try simp only [bool_not_true, bool_not_false, decide_eq_true_eq, decide_eq_false_iff_not, Bool.and_eq_true] at hc)) | refine And.intro (by first | assumption | omega | (have := len_pos (by assumption); omega) | (unfold capOK; omega)) ?_ | ((first | simp (disch := omega) only [encs_getN] | simp (disch := omega) only [wrapS]); (try simp only [go_sem, ↓reduceIte, Nat.reduceEqDiff, Nat.reduceAdd, Nat.reduceSub, Nat.reduceMul, Nat.reduceLT, Nat.reduceLeDiff, reduceCtorEq, Int.reduceToNat])) | ((first | refine a_Peek ?_ | refine m_app (typ_AtomAt hm ih c hg hr) rfl ?_); simp only [go_sem, ↓reduceIte, Nat.reduceEqDiff, Nat.reduceAdd, Nat.reduceSub, Nat.reduceMul, Nat.reduceLT, Nat.reduceLeDiff, reduceCtorEq, Int.reduceToNat]))
    rw [typRow, if_neg hk]; exact ⟨rfl, rfl⟩
end
theorem typ_At_step {f : Nat} (ih : ∀ c, c.good → rest c < f → VMeth Try.prog 20 (curE c) (curE (typAt f c).1) [.ptr 0 0] (resP (typAt f c).2)) (c : K) (hg : c.good) (hr : rest c < f + 1) :
    VMeth Try.prog 20 (curE c) (curE (typAt (f + 1) c).1) [.ptr 0 0] (resP (typAt (f + 1) c).2) := by
  have hm := mon_typAt f
  have g1 : (enterK c).1.good := (mon_enter c).1 hg
  have hr1 : rest (enterK c).1 ≤ f := by have := (mon_enter c).2.1; omega
  have hrow := typ_row hm ih _ g1 hr1
  have mrow := mon_typRow hm (enterK c).1
  have lrow := typRow_less hm (c := (enterK c).1)
  have hpa : typAt (f + 1) c = if (enterK c).2 = true then
      if (typRow (typAt f) (enterK c).1).2.isSome = true then
        if (takeK (typRow (typAt f) (enterK c).1).1 [45, 62]).2 = true then
          (leaveK (typAt f (takeK (typRow (typAt f) (enterK c).1).1 [45, 62]).1).1, (typAt f (takeK (typRow (typAt f) (enterK c).1).1 [45, 62]).1).2.map (arrowN ((typRow (typAt f) (enterK c).1).2.getD N0)))
        else (leaveK (typRow (typAt f) (enterK c).1).1, (typRow (typAt f) (enterK c).1).2)
      else (leaveK (typRow (typAt f) (enterK c).1).1, none)
    else ((enterK c).1, none) := by rw [typAt]
  rw [hpa]
  clear hpa
  generalize typRow (typAt f) (enterK c).1 = r at *
  have g2 : r.1.good := mrow.1 g1
  have g3 : (takeK r.1 [45, 62]).1.good := (mon_take _ _).1 g2
  have g4 : (typAt f (takeK r.1 [45, 62]).1).1.good := (hm _).1 g3
  have hlt : r.2.isSome = true → rest (takeK r.1 [45, 62]).1 < f := fun h => by
    have := lrow h
    have := (mon_take r.1 [45, 62]).2.1
    omega
  refine vcalls_of c0w 1 (by simp) (by simp) ?_
  repeat' (first | refine vi_seq ?_ | refine vi_block ?_ | refine vi_scope ?_ | ((first | refine vi_reg ?_ | refine vi_regE (by rfl) ?_ | refine vi_regD ?_ | refine vi_label ?_ | refine vi_goto ?_ | refine vi_ret ?_ | refine vi_exit ?_ | refine vi_skip ?_ | refine vi_cond ?_ | refine a_Enter ?_ | refine m_app hrow rfl ?_ | refine a_Take g2.ok ?_ | refine m_app (ih _ g3 (hlt (by assumption))) rfl ?_ | refine a_Leave g4.2.2 ?_ | refine a_Leave g3.2.2 ?_ | refine a_Leave g2.2.2 ?_ | refine a_told ?_ | refine a_tellArrow ?_); simp only [go_sem, ↓reduceIte, Nat.reduceEqDiff, Nat.reduceAdd, Nat.reduceSub, Nat.reduceMul, Nat.reduceLT, Nat.reduceLeDiff, reduceCtorEq, Int.reduceToNat]) | ((first | refine gd_caseb ?_ ?_ | refine cnd_caseb ?_ ?_) <;> intro hc <;> simp only [hc, go_sem, ↓reduceIte, Nat.reduceEqDiff, Nat.reduceAdd, Nat.reduceSub, Nat.reduceMul, Nat.reduceLT, Nat.reduceLeDiff, reduceCtorEq, Int.reduceToNat] <;> (try simp only [bool_not_true, bool_not_false, decide_eq_true_eq, decide_eq_false_iff_not, Bool.and_eq_true] at hc)) | refine And.intro (by first | assumption | omega | (have := len_pos (by assumption); omega) | (unfold capOK; omega)) ?_ | ((first | simp (disch := omega) only [encs_getN] | simp (disch := omega) only [wrapS]); (try simp only [go_sem, ↓reduceIte, Nat.reduceEqDiff, Nat.reduceAdd, Nat.reduceSub, Nat.reduceMul, Nat.reduceLT, Nat.reduceLeDiff, reduceCtorEq, Int.reduceToNat])))
  all_goals (try simp only [takeK_same' (c := r.1) (by assumption)])
  all_goals (try simp only [tell_is (r := r.2) (by assumption)])
  all_goals (try simp only [tell_f, tell_arrow])
  all_goals (simp only [*, enc_z, if_true, if_false, reduceIte, Bool.false_eq_true, Option.getD_none, Option.getD_some, Option.isSome_none, Option.isSome_some, and_self, true_and, and_true]; try rfl)
theorem typ_At (f : Nat) : ∀ c : K, c.good → rest c < f → VMeth Try.prog 20 (curE c) (curE (typAt f c).1) [.ptr 0 0] (resP (typAt f c).2) := by
  induction f with
  | zero => exact fun c _ h => absurd h (by omega)
  | succ f ih => exact typ_At_step ih
end Go.Proofs.Ytjigahnncojikaa
