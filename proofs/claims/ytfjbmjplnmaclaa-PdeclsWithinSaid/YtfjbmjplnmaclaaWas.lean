/- Texts of this proof, joined. -/
import Derived.Test.YtfjbmjplnmaclaaWar
import Derived.Test.YtfjbmjplnmaclaaWah

/- the lexer's words: all words (plain) -/
namespace Go.Proofs.Ytfjbmjplnmaclaa
open Go Go.RowKit Go.V
set_option linter.unusedVariables false
set_option linter.unusedSimpArgs false

theorem qyq (l : List UInt8) : (qc3 l).1.text.length ≤ l.length := by
  unfold qc3
  split
  · simp only [List.length_take]; omega
  · split
    · simp only [qve, List.length_take]; omega
    · split
      · simp [T0]
      · simp only [List.length_take]; omega
theorem qxu {l : List UInt8} (hl : l ≠ []) (h : (qc3 l).2 = 0) : 0 < (qc3 l).1.text.length := by
  have h0 := List.length_pos_iff.2 hl
  have key : ∀ f : Int → Bool, f (l.getD 0 0).toNat = true → qc2 f l ≠ 0 := fun f hf => by
    have := qhs (f := f) h0
    rw [List.drop_zero, if_pos hf] at this
    omega
  unfold qc3 at h ⊢
  split
  · rename_i h1
    have := key _ h1
    simp only [List.length_take]; omega
  · rename_i h1
    rw [if_neg h1] at h
    split
    · rename_i h2
      have := key _ (by simp only [Bool.and_eq_true] at h2; exact h2.1)
      simp only [qve, List.length_take]; omega
    · rename_i h2
      rw [if_neg h2] at h
      split
      · rename_i h3; rw [if_pos h3] at h; simp at h
      · have := qr3 l
        simp only [List.length_take]; omega

def lexN (s : List UInt8) (k : Nat) : Nat := k + (qc3 (s.drop k)).1.text.length
def lexK (s : List UInt8) (k : Nat) : Nat := lexN s k + qb9 (s.drop (lexN s k))
def lexT (s : List UInt8) (k : Nat) : T := ⟨(qc3 (s.drop k)).1.kind, k, (qc3 (s.drop k)).1.num, (qc3 (s.drop k)).1.text⟩
abbrev LR := List T × Int × Int
def appR (a : List T) (r : LR) : LR := if r.2.2 = 0 then (a ++ r.1, r.2.1, r.2.2) else r
def lexF : Nat → List UInt8 → Nat → LR
  | 0, s, k => ([], 0, 0)
  | f + 1, s, k => if k < s.length then if (qc3 (s.drop k)).2 = 0 then appR [lexT s k] (lexF f s (lexK s k)) else ([], (k : Int), (qc3 (s.drop k)).2) else ([], 0, 0)
def lexG (s : List UInt8) (k : Nat) : LR := lexF (s.length - k) s k
theorem qxi {s : List UInt8} {k : Nat} (h : k ≤ s.length) : lexN s k ≤ s.length := by
  have := qyq (s.drop k)
  rw [List.length_drop] at this
  unfold lexN; omega
theorem qqx {s : List UInt8} {k : Nat} (h : k ≤ s.length) : lexK s k ≤ s.length := by
  have h1 := qxi h
  have := qjr (s.drop (lexN s k))
  rw [List.length_drop] at this
  unfold lexK; omega
theorem qnb {s : List UInt8} {k : Nat} (h : k < s.length) (h2 : (qc3 (s.drop k)).2 = 0) : k < lexK s k := by
  have := qxu (l := s.drop k) (by intro e; have := congrArg List.length e; simp at this; omega) h2
  unfold lexK lexN; omega
theorem qkw {s : List UInt8} : ∀ (f g k : Nat), s.length - k ≤ f → s.length - k ≤ g → lexF f s k = lexF g s k
  | 0, 0, k, _, _ => rfl
  | 0, g + 1, k, h1, h2 => by rw [lexF, lexF, if_neg (by omega)]
  | f + 1, 0, k, h1, h2 => by rw [lexF, lexF, if_neg (by omega)]
  | f + 1, g + 1, k, h1, h2 => by
    rw [lexF, lexF]
    split
    · rename_i h
      split
      · rename_i h3
        have := qnb h h3
        rw [qkw f g _ (by omega) (by omega)]
      · rfl
    · rfl
theorem qbpd {s : List UInt8} {k : Nat} (h : ¬ k < s.length) : lexG s k = ([], 0, 0) := by
  rw [lexG, show s.length - k = 0 by omega, lexF]
theorem qbna {s : List UInt8} {k : Nat} (h : k < s.length) (h2 : (qc3 (s.drop k)).2 = 0) : lexG s k = appR [lexT s k] (lexG s (lexK s k)) := by
  have := qnb h h2
  rw [lexG, show s.length - k = (s.length - k - 1) + 1 by omega, lexF, if_pos h, if_pos h2, lexG, qkw _ (s.length - lexK s k) _ (by omega) (by omega)]
theorem qblp {s : List UInt8} {k : Nat} (h : k < s.length) (h2 : ¬ (qc3 (s.drop k)).2 = 0) : lexG s k = ([], (k : Int), (qc3 (s.drop k)).2) := by
  rw [lexG, show s.length - k = (s.length - k - 1) + 1 by omega, lexF, if_pos h, if_neg h2]
theorem q4w (a b : List T) (r : LR) : appR a (appR b r) = appR (a ++ b) r := by
  unfold appR
  by_cases h : r.2.2 = 0
  · simp [h]
  · simp [h]
theorem qj5 (r : LR) : appR [] r = r := by
  unfold appR
  split <;> rfl

/-- All words, where it fails, and the error. -/
def lexV (s : List UInt8) : LR :=
  if (1048576 : Int) < s.length then ([], 0, 2) else appR [] (if (lexG s (qb9 s)).2.2 = 0 then ((lexG s (qb9 s)).1 ++ [⟨0, s.length, 0, []⟩], 0, 0) else lexG s (qb9 s))

/-! What the loop over a text's words does. -/
structure LSt (s : List UInt8) (fn : FuncId) (asn bd : Code) (tm : List (Nat × AV)) (acc : List T) (H : List Ent) : Prop where
  len : 6 ≤ H.length
  e0 : ent H 0 = .blk [.nils]
  e1 : ent H 1 = .blk [.int .i64 0]
  e2 : ent H 2 = .blk [.int .i64 0]
  e3 : ∃ out, ent H 3 = .blk [out] ∧ (acc = [] ∧ out = .nils ∨ ∃ r, 6 ≤ r ∧ out = .row r acc.length ∧ ent H r = .app 4 (qde acc))
  e4 : ent H 4 = .blk [.str s]
  e5 : ent H 5 = .lp ⟨.ready, none, fn, [13, 14].toArray, asn, bd⟩ (qhl 30 tm)
structure LEnd (fn : FuncId) (asn bd : Code) (tm : List (Nat × AV)) (k e : Int) (H : List Ent) : Prop where
  len : 6 ≤ H.length
  e0 : ent H 0 = .blk [.nils]
  e1 : ent H 1 = .blk [.int .i64 k]
  e2 : ent H 2 = .blk [.int .i64 e]
  e5 : ∃ vs, ent H 5 = .lp ⟨.done, some .ret, fn, [13, 14].toArray, asn, bd⟩ vs
variable {s : List UInt8} {fn : FuncId} {asn bd : Code} {tm : List (Nat × AV)} {acc : List T} {H : List Ent}
theorem qbj9 {n k i : Nat} (h : i < n) : gro n k i = i := by rw [gro, if_pos h]
theorem q09 {σ : Nat → Nat} {m n : Nat} (hσ : ∀ i, i < m → σ i = i) {tm : List (Nat × AV)} (h : tmBd m tm = true) : AV.rens σ (qhl n tm) = qhl n tm := qb4 hσ _ (qse h)
theorem LSt.grow {n : Nat} {L : List Ent} (h : LSt s fn asn bd tm acc H) (hn : 6 ≤ n) (hl : n ≤ H.length) (ht : tmBd 6 tm = true) : LSt s fn asn bd tm acc (grow n L H) where
  len := by rw [qnv hl]; omega
  e0 := by rw [qcu hl (by omega), h.e0]; rfl
  e1 := by rw [qcu hl (by omega), h.e1]; rfl
  e2 := by rw [qcu hl (by omega), h.e2]; rfl
  e3 := by
    obtain ⟨out, h1, h2⟩ := h.e3
    refine ⟨out.ren (gro n L.length), by rw [qcu hl (by omega), h1]; rfl, ?_⟩
    rcases h2 with ⟨h3, rfl⟩ | ⟨r, h3, rfl, h4⟩
    · exact .inl ⟨h3, rfl⟩
    · refine .inr ⟨gro n L.length r, by unfold gro; split <;> omega, rfl, ?_⟩
      rw [q1d hl, h4, Ent.ren, qln]
  e4 := by rw [qcu hl (by omega), h.e4]; rfl
  e5 := by rw [qcu hl (by omega), h.e5, Ent.ren, q09 (m := 6) (fun i hi => qbj9 (by omega)) ht]
theorem LEnd.grow {n : Nat} {L : List Ent} {k e : Int} (h : LEnd fn asn bd tm k e H) (hn : 6 ≤ n) (hl : n ≤ H.length) : LEnd fn asn bd tm k e (grow n L H) where
  len := by rw [qnv hl]; omega
  e0 := by rw [qcu hl (by omega), h.e0]; rfl
  e1 := by rw [qcu hl (by omega), h.e1]; rfl
  e2 := by rw [qcu hl (by omega), h.e2]; rfl
  e5 := by
    obtain ⟨vs, h5⟩ := h.e5
    exact ⟨_, by rw [qcu hl (by omega), h5]; rfl⟩
set_option maxRecDepth 4000
variable {s : List UInt8} {fn : FuncId} {asn bd : Code} {tm : List (Nat × AV)} {acc : List T} {H : List Ent}

attribute [go_sem] qbdg
theorem q51 {h : Nat} (hn : h ≠ 0) {α : Type} (a b : α) : (if 0 = h then a else b) = b := if_neg (Ne.symm hn)
theorem qxe (ha : qcz Try.prog 30 asn = some (.seq qm8 qne)) (hb : qcz Try.prog 30 bd = some qq2)
    (h2 : get tm 2 = .ptr 0 0) (h3 : get tm 3 = .ptr 1 0) (h4 : get tm 4 = .ptr 2 0) (h5 : get tm 5 = .ptr 3 0)
    (t : T) (e : Int) (hs : LSt s fn asn bd tm acc H) (hacc : acc.length ≤ 1048576) :
    VApp Try.prog H (.opq 5) [encT t, .int .i64 e] (fun H' o => H.length ≤ H'.length ∧ (if e = 0 then LSt s fn asn bd tm (acc ++ [t]) H' ∧ o = .val (.bool true) else LEnd fn asn bd tm t.pos e H' ∧ o = .val (.bool false))) := by
  have e0 := hs.e0
  have e1 := hs.e1
  have e2 := hs.e2
  have e4 := hs.e4
  have e5 := hs.e5
  have hlen := hs.len
  obtain ⟨out, e3, hout⟩ := hs.e3
  refine qrj e5 rfl (by simp [qhl]) ha hb (by simp) (by simp) fun lp => ?_
  rcases hout with ⟨rfl, rfl⟩ | ⟨r, hr, rfl, er⟩
  · repeat' (first | refine qi ?_ | refine qk ?_ | refine qdz ?_ | ((first | refine qm ?_ | refine qcm (by rfl) ?_ | refine q9 ?_ | refine qdy ?_ | refine qew ?_ | refine qj ?_ | refine qr ?_ | refine qh ?_ | refine qg ?_) <;> (try simp (disch := first | omega | (simp only [List.length_set, List.length_append, List.length_cons, List.length_nil]; done) | (simp only [List.length_set, List.length_append, List.length_cons, List.length_nil]; omega)) only [h2, h3, h4, h5, e0, e1, e2, e3, e4, e5, qd8, qc5, qcf, List.length_set, go_sem, ↓reduceIte, Nat.reduceEqDiff, Nat.reduceAdd, Nat.reduceSub, Nat.reduceMul, Nat.reduceLT, Nat.reduceLeDiff, reduceCtorEq, Int.reduceToNat])) | ((first | ((first | refine qe ?_ ?_ | refine qc ?_ ?_) <;> intro hc <;> (try simp only [hc]) <;> (try simp only [qb, qa, decide_eq_true_eq, decide_eq_false_iff_not, Bool.and_eq_true] at hc)) | refine And.intro (by first | assumption | omega | (have := qf (by assumption); omega) | (unfold qo; omega)) ?_ | simp (disch := omega) only [qd] | simp (disch := omega) only [qn]) <;> (try simp only [go_sem, ↓reduceIte, Nat.reduceEqDiff, Nat.reduceAdd, Nat.reduceSub, Nat.reduceMul, Nat.reduceLT, Nat.reduceLeDiff, reduceCtorEq, Int.reduceToNat])))
    · refine ⟨by rw [q51 (by omega)], ?_⟩
      repeat' (first | refine qi ?_ | refine qk ?_ | refine qdz ?_ | ((first | refine qm ?_ | refine qcm (by rfl) ?_ | refine q9 ?_ | refine qdy ?_ | refine qew ?_ | refine qj ?_ | refine qr ?_ | refine qh ?_ | refine qg ?_) <;> (try simp (disch := first | omega | (simp only [List.length_set, List.length_append, List.length_cons, List.length_nil]; done) | (simp only [List.length_set, List.length_append, List.length_cons, List.length_nil]; omega)) only [h2, h3, h4, h5, e0, e1, e2, e3, e4, e5, qd8, qc5, qcf, List.length_set, go_sem, ↓reduceIte, Nat.reduceEqDiff, Nat.reduceAdd, Nat.reduceSub, Nat.reduceMul, Nat.reduceLT, Nat.reduceLeDiff, reduceCtorEq, Int.reduceToNat])) | ((first | ((first | refine qe ?_ ?_ | refine qc ?_ ?_) <;> intro hc <;> (try simp only [hc]) <;> (try simp only [qb, qa, decide_eq_true_eq, decide_eq_false_iff_not, Bool.and_eq_true] at hc)) | refine And.intro (by first | assumption | omega | (have := qf (by assumption); omega) | (unfold qo; omega)) ?_ | simp (disch := omega) only [qd] | simp (disch := omega) only [qn]) <;> (try simp only [go_sem, ↓reduceIte, Nat.reduceEqDiff, Nat.reduceAdd, Nat.reduceSub, Nat.reduceMul, Nat.reduceLT, Nat.reduceLeDiff, reduceCtorEq, Int.reduceToNat])))
      rw [if_neg hc]
      refine ⟨by simp only [List.length_set, List.length_append, List.length_cons, List.length_nil]; omega, ?_, ?_, ?_, qhl 30 tm, ?_⟩ <;> simp (disch := first | omega | (simp only [List.length_set, List.length_append, List.length_cons, List.length_nil]; omega)) only [e0, e1, e2, e3, e4, e5, qd8, qc5, qcf]
    · rw [if_pos hc]
      refine ⟨by simp; omega, ?_, ?_, ?_, ⟨_, ?_, .inr ⟨H.length + 1, by omega, rfl, ?_⟩⟩, ?_, ?_⟩ <;> simp (disch := first | omega | (simp only [List.length_set, List.length_append, List.length_cons, List.length_nil]; omega)) only [e0, e1, e2, e3, e4, e5, qd8, qc5, qcf]
      · rfl
      · rw [qn4 (by simp)]; simp [ent, qde]
  · have hrl : r < H.length := by
      apply Decidable.byContradiction
      intro h
      rw [qbln (by omega)] at er
      cases er
    repeat' (first | refine qi ?_ | refine qk ?_ | refine qdz ?_ | ((first | refine qm ?_ | refine qcm (by rfl) ?_ | refine q9 ?_ | refine qdy ?_ | refine qew ?_ | refine qj ?_ | refine qr ?_ | refine qh ?_ | refine qg ?_) <;> (try simp (disch := first | omega | (simp only [List.length_set, List.length_append, List.length_cons, List.length_nil]; done) | (simp only [List.length_set, List.length_append, List.length_cons, List.length_nil]; omega)) only [h2, h3, h4, h5, e0, e1, e2, e3, e4, e5, er, qd8, qc5, qcf, List.length_set, go_sem, ↓reduceIte, Nat.reduceEqDiff, Nat.reduceAdd, Nat.reduceSub, Nat.reduceMul, Nat.reduceLT, Nat.reduceLeDiff, reduceCtorEq, Int.reduceToNat])) | ((first | ((first | refine qe ?_ ?_ | refine qc ?_ ?_) <;> intro hc <;> (try simp only [hc]) <;> (try simp only [qb, qa, decide_eq_true_eq, decide_eq_false_iff_not, Bool.and_eq_true] at hc)) | refine And.intro (by first | assumption | omega | (have := qf (by assumption); omega) | (unfold qo; omega)) ?_ | simp (disch := omega) only [qd] | simp (disch := omega) only [qn]) <;> (try simp only [go_sem, ↓reduceIte, Nat.reduceEqDiff, Nat.reduceAdd, Nat.reduceSub, Nat.reduceMul, Nat.reduceLT, Nat.reduceLeDiff, reduceCtorEq, Int.reduceToNat])))
    · refine ⟨by rw [q51 (by omega)], ?_⟩
      repeat' (first | refine qi ?_ | refine qk ?_ | refine qdz ?_ | ((first | refine qm ?_ | refine qcm (by rfl) ?_ | refine q9 ?_ | refine qdy ?_ | refine qew ?_ | refine qj ?_ | refine qr ?_ | refine qh ?_ | refine qg ?_) <;> (try simp (disch := first | omega | (simp only [List.length_set, List.length_append, List.length_cons, List.length_nil]; done) | (simp only [List.length_set, List.length_append, List.length_cons, List.length_nil]; omega)) only [h2, h3, h4, h5, e0, e1, e2, e3, e4, e5, qd8, qc5, qcf, List.length_set, go_sem, ↓reduceIte, Nat.reduceEqDiff, Nat.reduceAdd, Nat.reduceSub, Nat.reduceMul, Nat.reduceLT, Nat.reduceLeDiff, reduceCtorEq, Int.reduceToNat])) | ((first | ((first | refine qe ?_ ?_ | refine qc ?_ ?_) <;> intro hc <;> (try simp only [hc]) <;> (try simp only [qb, qa, decide_eq_true_eq, decide_eq_false_iff_not, Bool.and_eq_true] at hc)) | refine And.intro (by first | assumption | omega | (have := qf (by assumption); omega) | (unfold qo; omega)) ?_ | simp (disch := omega) only [qd] | simp (disch := omega) only [qn]) <;> (try simp only [go_sem, ↓reduceIte, Nat.reduceEqDiff, Nat.reduceAdd, Nat.reduceSub, Nat.reduceMul, Nat.reduceLT, Nat.reduceLeDiff, reduceCtorEq, Int.reduceToNat])))
      rw [if_neg hc]
      refine ⟨by simp only [List.length_set, List.length_append, List.length_cons, List.length_nil]; omega, ?_, ?_, ?_, qhl 30 tm, ?_⟩ <;> simp (disch := first | omega | (simp only [List.length_set, List.length_append, List.length_cons, List.length_nil]; omega)) only [e0, e1, e2, e3, e4, e5, qd8, qc5, qcf]
    · rw [if_pos hc]
      refine ⟨by simp; omega, ?_, ?_, ?_, ⟨_, ?_, .inr ⟨H.length + 1, by omega, rfl, ?_⟩⟩, ?_, ?_⟩ <;> simp (disch := first | omega | (simp only [List.length_set, List.length_append, List.length_cons, List.length_nil]; omega)) only [e0, e1, e2, e3, e4, e5, qd8, qc5, qcf]
      · simp
      · rw [qn4 (by simp)]; simp [ent, qde]
set_option maxRecDepth 4000
variable {s : List UInt8} {fn : FuncId} {asn bd : Code} {tm : List (Nat × AV)} {acc : List T} {H : List Ent}

theorem qz3 (ha : qcz Try.prog 30 asn = some (.seq qm8 qne)) (hb : qcz Try.prog 30 bd = some qq2)
    (h2 : get tm 2 = .ptr 0 0) (h3 : get tm 3 = .ptr 1 0) (h4 : get tm 4 = .ptr 2 0) (h5 : get tm 5 = .ptr 3 0) (ht : tmBd 6 tm = true)
    (hs : LSt s fn asn bd tm [] H) (hl : s.length ≤ 1048576) :
    VCalls Try.prog 47 H [.opq 5, .ptr 4 0] (fun H' o => o = .val (.tup []) ∧ H.length ≤ H'.length ∧
      (if (lexG s (qb9 s)).2.2 = 0 then LSt s fn asn bd tm (lexG s (qb9 s)).1 H' else LEnd fn asn bd tm (lexG s (qb9 s)).2.1 (lexG s (qb9 s)).2.2 H')) := by
  have hcap : s.length ≤ maxLen := by unfold maxLen; omega
  have e4 := hs.e4
  have hlen := hs.len
  refine qov c0co (by simp) (qbm0 fun hbd => ?_)
  repeat' (first | refine qi ?_ | refine qk ?_ | ((first | refine qm ?_ | refine qj ?_ | refine qr ?_ | refine qh ?_ | refine qg ?_) <;> (try simp (disch := first | omega | (simp only [List.length_set, List.length_append, List.length_cons, List.length_nil]; done) | (simp only [List.length_set, List.length_append, List.length_cons, List.length_nil]; omega)) only [e4, go_sem, ↓reduceIte, Nat.reduceEqDiff, Nat.reduceAdd, Nat.reduceSub, Nat.reduceMul, Nat.reduceLT, Nat.reduceLeDiff, reduceCtorEq, Int.reduceToNat])) | ((first | ((first | refine qe ?_ ?_ | refine qc ?_ ?_) <;> intro hc <;> (try simp only [hc]) <;> (try simp only [qb, qa, decide_eq_true_eq, decide_eq_false_iff_not, Bool.and_eq_true] at hc)) | refine And.intro (by first | assumption | omega | (have := qf (by assumption); omega) | (unfold qo; omega)) ?_ | simp (disch := omega) only [qd] | simp (disch := omega) only [qn] | refine qv (qg5 _) fun _ => ?_ | refine qy  (qg5 _) ?_) <;> (try simp only [go_sem, ↓reduceIte, Nat.reduceEqDiff, Nat.reduceAdd, Nat.reduceSub, Nat.reduceMul, Nat.reduceLT, Nat.reduceLeDiff, reduceCtorEq, Int.reduceToNat])))
  have hk0 := qjr s
  refine qcx (S := Nat × List T × List Ent) (fun x => x.1 ≤ s.length ∧ lexG s (qb9 s) = appR x.2.1 (lexG s x.1) ∧ x.2.1.length ≤ x.1 ∧ LSt s fn asn bd tm x.2.1 x.2.2 ∧ H.length ≤ x.2.2.length ∧ x.2.2.all (Ent.bd x.2.2.length) = true)
    (fun x => (⟨[(0, .opq 5), (1, .ptr 4 0), (3, .int .i64 x.1)], []⟩, x.2.2)) (fun x => s.length - x.1) ?_ ?_
  · refine qss (qb9 s, [], H) [] ⟨hk0, (qj5 _).symm, Nat.zero_le _, hs, Nat.le_refl _, hbd⟩ (Nat.le_refl _) (by simp) hbd ?_ rfl rfl
    simp only [go_sem, ↓reduceIte, Nat.reduceEqDiff, Nat.reduceAdd, Nat.reduceSub, Nat.reduceMul, Nat.reduceLT, Nat.reduceLeDiff, reduceCtorEq, Int.reduceToNat]
    exact ⟨decide_eq_true (by omega), decide_eq_true (by omega)⟩
  · rintro ⟨k, acc, H1⟩ ⟨hk, hG, hacc, hs1, hH1, hbd1⟩
    have f4 := hs1.e4
    have hlen1 := hs1.len
    simp only at hk hG hacc hH1 hbd1 f4 hlen1 hs1
    repeat' (first | refine qi ?_ | refine qk ?_ | ((first | refine qm ?_ | refine qj ?_ | refine qr ?_ | refine qh ?_ | refine qg ?_) <;> (try simp (disch := first | omega | (simp only [List.length_set, List.length_append, List.length_cons, List.length_nil]; done) | (simp only [List.length_set, List.length_append, List.length_cons, List.length_nil]; omega)) only [f4, go_sem, ↓reduceIte, Nat.reduceEqDiff, Nat.reduceAdd, Nat.reduceSub, Nat.reduceMul, Nat.reduceLT, Nat.reduceLeDiff, reduceCtorEq, Int.reduceToNat])) | ((first | ((first | refine qe ?_ ?_ | refine qc ?_ ?_) <;> intro hc <;> (try simp only [hc]) <;> (try simp only [qb, qa, decide_eq_true_eq, decide_eq_false_iff_not, Bool.and_eq_true] at hc)) | refine And.intro (by first | assumption | omega | (have := qf (by assumption); omega) | (unfold qo; omega)) ?_ | simp (disch := omega) only [qd] | simp (disch := omega) only [qn] | refine qv (qmb _ (by simp; omega)) fun _ => ?_ | refine qy  (qmb _ (by simp; omega)) ?_) <;> (try simp only [go_sem, ↓reduceIte, Nat.reduceEqDiff, Nat.reduceAdd, Nat.reduceSub, Nat.reduceMul, Nat.reduceLT, Nat.reduceLeDiff, reduceCtorEq, Int.reduceToNat])))
    · have hk1 : k < s.length := by omega
      refine q0p (qxe ha hb h2 h3 h4 h5 (lexT s k) (qc3 (s.drop k)).2 hs1 (by omega)) hbd1 (by simp only [AV.bd]; exact decide_eq_true (by omega)) rfl fun H2 o ho => ⟨ho.1, ?_⟩
      obtain ⟨hl2, ho⟩ := ho
      have em := fun L => qo2 (L := [L]) (j := 0) hl2 (by simp)
      have hl3 := fun L => qnv (L := L) hl2
      by_cases he : (qc3 (s.drop k)).2 = 0
      · rw [if_pos he] at ho
        obtain ⟨hs2, rfl⟩ := ho
        have hs3 := fun L => hs2.grow (L := L) (n := H1.length) (by omega) hl2 ht
        specialize em (.blk [AV.int IntKind.i64 (qc3 (List.drop k s)).fst.kind, AV.int IntKind.i64 k, AV.int IntKind.i64 (qc3 (List.drop k s)).fst.num, AV.str (qc3 (List.drop k s)).fst.text])
        specialize hs3 [.blk [AV.int IntKind.i64 (qc3 (List.drop k s)).fst.kind, AV.int IntKind.i64 k, AV.int IntKind.i64 (qc3 (List.drop k s)).fst.num, AV.str (qc3 (List.drop k s)).fst.text]]
        specialize hl3 [.blk [AV.int IntKind.i64 (qc3 (List.drop k s)).fst.kind, AV.int IntKind.i64 k, AV.int IntKind.i64 (qc3 (List.drop k s)).fst.num, AV.str (qc3 (List.drop k s)).fst.text]]
        generalize grow H1.length _ H2 = H3 at em hs3 hl3 ⊢
        have f4 := hs3.e4
        simp only [List.length_cons, List.length_nil] at hl3
        simp only [Nat.add_zero, ent] at em
        have hn := qxi hk
        simp only [go_sem, ↓reduceIte, Nat.reduceEqDiff, Nat.reduceAdd, Nat.reduceSub, Nat.reduceMul, Nat.reduceLT, Nat.reduceLeDiff, reduceCtorEq, Int.reduceToNat]
        refine qbm0 fun hbd3 => ?_
        have hk2 := qqx hk
        have w1 : IntKind.i64.wrap ((k : Int) + ((qc3 (List.drop k s)).1.text.length : Nat)) = (lexN s k : Nat) := by
          rw [qgl (by unfold lexN at hn; omega) (by unfold lexN at hn; omega)]; rfl
        have w2 : IntKind.i64.wrap ((lexN s k : Nat) + (qb9 (s.drop (lexN s k)) : Nat) : Int) = (lexK s k : Nat) := by
          rw [qgl (by unfold lexK at hk2; omega) (by unfold lexK at hk2; omega)]; rfl
        repeat' (first | refine qi ?_ | refine qk ?_ | ((first | refine qm ?_ | refine qj ?_ | refine qr ?_ | refine qh ?_ | refine qg ?_) <;> (try simp (disch := first | omega | (simp only [List.length_set, List.length_append, List.length_cons, List.length_nil]; done) | (simp only [List.length_set, List.length_append, List.length_cons, List.length_nil]; omega)) only [f4, em, w1, w2, go_sem, ↓reduceIte, Nat.reduceEqDiff, Nat.reduceAdd, Nat.reduceSub, Nat.reduceMul, Nat.reduceLT, Nat.reduceLeDiff, reduceCtorEq, Int.reduceToNat])) | ((first | ((first | refine qe ?_ ?_ | refine qc ?_ ?_) <;> intro hc <;> (try simp only [hc]) <;> (try simp only [qb, qa, decide_eq_true_eq, decide_eq_false_iff_not, Bool.and_eq_true] at hc)) | refine And.intro (by first | assumption | omega | (have := qf (by assumption); omega) | (unfold qo; omega)) ?_ | simp (disch := omega) only [qd] | simp (disch := omega) only [qn] | refine qv (qg5 _) fun _ => ?_ | refine qy  (qg5 _) ?_) <;> (try simp only [go_sem, ↓reduceIte, Nat.reduceEqDiff, Nat.reduceAdd, Nat.reduceSub, Nat.reduceMul, Nat.reduceLT, Nat.reduceLeDiff, reduceCtorEq, Int.reduceToNat])))
        have hlt := qnb hk1 he
        refine qss (lexK s k, acc ++ [lexT s k], H3) [] ⟨⟨hk2, ?_, ?_, hs3, by simp only; omega, hbd3⟩, by simp only; omega⟩ (by simp only; omega) (by simp) hbd3 ?_ rfl rfl
        · simp only
          rw [hG, qbna hk1 he, q4w]
        · simp only [List.length_append, List.length_cons, List.length_nil]; omega
        · simp only [go_sem, ↓reduceIte, Nat.reduceEqDiff, Nat.reduceAdd, Nat.reduceSub, Nat.reduceMul, Nat.reduceLT, Nat.reduceLeDiff, reduceCtorEq, Int.reduceToNat]
          exact ⟨decide_eq_true (by omega), decide_eq_true (by omega), by rw [w2]⟩
      · rw [if_neg he] at ho
        obtain ⟨hs2, rfl⟩ := ho
        have hs3 := hs2.grow (L := [.blk [AV.int IntKind.i64 (qc3 (List.drop k s)).fst.kind, AV.int IntKind.i64 k, AV.int IntKind.i64 (qc3 (List.drop k s)).fst.num, AV.str (qc3 (List.drop k s)).fst.text]]) (n := H1.length) (by omega) hl2
        specialize hl3 [.blk [AV.int IntKind.i64 (qc3 (List.drop k s)).fst.kind, AV.int IntKind.i64 k, AV.int IntKind.i64 (qc3 (List.drop k s)).fst.num, AV.str (qc3 (List.drop k s)).fst.text]]
        generalize grow H1.length _ H2 = H3 at hs3 hl3 ⊢
        simp only [go_sem, ↓reduceIte, Nat.reduceEqDiff, Nat.reduceAdd, Nat.reduceSub, Nat.reduceMul, Nat.reduceLT, Nat.reduceLeDiff, reduceCtorEq, Int.reduceToNat]
        repeat' (first | refine qi ?_ | refine qk ?_ | ((first | refine qm ?_ | refine qj ?_ | refine qr ?_ | refine qh ?_ | refine qg ?_ | ((first | refine qe ?_ ?_ | refine qc ?_ ?_) <;> intro hc <;> (try simp only [hc]) <;> (try simp only [qb, qa, decide_eq_true_eq, decide_eq_false_iff_not, Bool.and_eq_true] at hc)) | refine And.intro (by first | assumption | omega | (have := qf (by assumption); omega) | (unfold qo; omega)) ?_ | simp (disch := omega) only [qd] | simp (disch := omega) only [qn]) <;> (try simp only [go_sem, ↓reduceIte, Nat.reduceEqDiff, Nat.reduceAdd, Nat.reduceSub, Nat.reduceMul, Nat.reduceLT, Nat.reduceLeDiff, reduceCtorEq, Int.reduceToNat])))
        have hr : lexG s (qb9 s) = ([], (k : Int), (qc3 (s.drop k)).2) := by
          rw [hG, qblp hk1 he, appR, if_neg he]
        rw [hr, if_neg he]
        exact hs3
    · rw [hG, qbpd (by omega)]
      simp only [appR, if_true, List.append_nil]
      exact hs1
set_option maxRecDepth 4000

theorem qqu (s : List UInt8) : VCalls Try.prog 31 [] [.str s] (fun H1 o => H1 = [.blk [.str s]] ∧ o = .val (.fn 47 [] [.ptr 0 0])) := by
  refine qs c0cm 1 (by simp) (by simp) ?_
  repeat' (first | refine qi ?_ | ((first | refine qm ?_ | refine qj ?_ | ((first | refine qe ?_ ?_ | refine qc ?_ ?_) <;> intro hc <;> (try simp only [hc]) <;> (try simp only [qb, qa, decide_eq_true_eq, decide_eq_false_iff_not, Bool.and_eq_true] at hc)) | refine And.intro (by first | assumption | omega | (have := qf (by assumption); omega) | (unfold qo; omega)) ?_ | simp (disch := omega) only [qd] | simp (disch := omega) only [qn]) <;> (try simp only [go_sem, ↓reduceIte, Nat.reduceEqDiff, Nat.reduceAdd, Nat.reduceSub, Nat.reduceMul, Nat.reduceLT, Nat.reduceLeDiff, reduceCtorEq, Int.reduceToNat])))
theorem qtb {s : List UInt8} {H : List Ent} {Q : List Ent → VO → Prop} (h : Q (H ++ [.blk [.str s]]) (.val (.fn 47 [] [.ptr H.length 0]))) : VApp Try.prog H (.fn 31 [] []) [.str s] Q :=
  qsp (qqu s) rfl (by rintro _ _ ⟨rfl, rfl⟩; simpa [qel, qbq, sg', VO.ren, AV.ren, AV.rens, Ent.ren] using h)
def lexR (r : LR) : AV := .tup [.sl 4 (qde r.1), .int .i64 r.2.1, .int .i64 r.2.2]
theorem qsh {s : List UInt8} (h : 1048576 < (s.length : Int)) : lexV s = ([], 0, 2) := if_pos h
theorem qx3 {s : List UInt8} (h : ¬ 1048576 < (s.length : Int)) (he : (lexG s (qb9 s)).2.2 = 0) : lexV s = ((lexG s (qb9 s)).1 ++ [⟨0, s.length, 0, []⟩], 0, 0) := by
  rw [lexV, if_neg h, if_pos he, qj5]
theorem qrs {s : List UInt8} : ∀ (f k : Nat), (lexF f s k).2.2 ≠ 0 → (lexF f s k).1 = []
  | 0, k, h => absurd rfl h
  | f + 1, k, h => by
    rw [lexF] at h ⊢
    split
    · rename_i h1
      rw [if_pos h1] at h
      split
      · rename_i h2
        rw [if_pos h2] at h
        unfold appR at h ⊢
        split
        · rename_i h3; rw [if_pos h3] at h; exact absurd h3 h
        · rename_i h3; rw [if_neg h3] at h; exact qrs f _ h
      · rfl
    · rfl
theorem qnu {s : List UInt8} : ∀ (f k : Nat), (lexF f s k).1.length ≤ s.length - k
  | 0, k => Nat.zero_le _
  | f + 1, k => by
    rw [lexF]
    split
    · rename_i h1
      split
      · rename_i h2
        have := qnu (s := s) f (lexK s k)
        have := qnb h1 h2
        have := qqx (Nat.le_of_lt h1)
        unfold appR
        split
        · simp only [List.length_append, List.length_cons, List.length_nil]; omega
        · omega
      · exact Nat.zero_le _
    · exact Nat.zero_le _
theorem qsz {s : List UInt8} (h : ¬ 1048576 < (s.length : Int)) (he : ¬ (lexG s (qb9 s)).2.2 = 0) : lexV s = ([], (lexG s (qb9 s)).2.1, (lexG s (qb9 s)).2.2) := by
  rw [lexV, if_neg h, if_neg he, qj5, ← show (lexG s (qb9 s)).1 = [] from qrs _ _ he]
theorem qoy (s : List UInt8) : qc4 Try.prog 21 [.str s] (lexR (lexV s)) := by
  refine qb3 c0cn (by simp) (by simp only [go_sem]) (by simp only [lexR, go_sem]) fun hw => ?_
  have hl : s.length ≤ maxLen := hw.1
  repeat' (first | refine qi ?_ | refine qk ?_ | ((first | refine qm ?_ | refine qcm (by rfl) ?_ | refine q9 ?_ | refine qj ?_ | refine qh ?_ | refine qg ?_ | refine qtb ?_ | ((first | refine qe ?_ ?_ | refine qc ?_ ?_) <;> intro hc <;> (try simp only [hc]) <;> (try simp only [qb, qa, decide_eq_true_eq, decide_eq_false_iff_not, Bool.and_eq_true] at hc)) | refine And.intro (by first | assumption | omega | (have := qf (by assumption); omega) | (unfold qo; omega)) ?_ | simp (disch := omega) only [qd] | simp (disch := omega) only [qn]) <;> (try simp only [go_sem, ↓reduceIte, Nat.reduceEqDiff, Nat.reduceAdd, Nat.reduceSub, Nat.reduceMul, Nat.reduceLT, Nat.reduceLeDiff, reduceCtorEq, Int.reduceToNat])))
  · rw [qsh hc]; rfl
  · refine q5u rfl (by simp) fun fn asn bd ha hb => ?_
    refine (qz3 (s := s) ha hb rfl rfl rfl rfl rfl ⟨by simp, rfl, rfl, rfl, ⟨.nils, rfl, .inl ⟨rfl, rfl⟩⟩, rfl, rfl⟩ (by omega)).mono fun H' o ho => ?_
    obtain ⟨rfl, hl2, ho⟩ := ho
    have hll : (lexG s (qb9 s)).1.length ≤ 1048576 := by have := qnu (s := s) (s.length - qb9 s) (qb9 s); unfold lexG; omega
    clear hl2
    by_cases he : (lexG s (qb9 s)).2.2 = 0
    · rw [if_pos he] at ho
      rw [qx3 hc he]
      have e0 := ho.e0
      have e1 := ho.e1
      have e2 := ho.e2
      have e5 := ho.e5
      have hlen := ho.len
      obtain ⟨out, e3, hout⟩ := ho.e3
      simp only [ranq, List.length_cons, List.length_nil, Nat.zero_add, Nat.reduceAdd, e5]
      rcases hout with ⟨h1, rfl⟩ | ⟨r, hr, rfl, er⟩
      · repeat' (first | refine qi ?_ | refine qk ?_ | ((first | refine qm ?_ | refine qcm (by rfl) ?_ | refine q9 ?_ | refine qj ?_ | refine qh ?_ | refine qg ?_) <;> (try simp (disch := first | omega | (simp only [List.length_set, List.length_append, List.length_cons, List.length_nil]; done) | (simp only [List.length_set, List.length_append, List.length_cons, List.length_nil]; omega)) only [e0, e1, e2, e3, e5, qd8, qc5, qcf, List.length_set, go_sem, ↓reduceIte, Nat.reduceEqDiff, Nat.reduceAdd, Nat.reduceSub, Nat.reduceMul, Nat.reduceLT, Nat.reduceLeDiff, reduceCtorEq, Int.reduceToNat])) | ((first | ((first | refine qe ?_ ?_ | refine qc ?_ ?_) <;> intro hc <;> (try simp only [hc]) <;> (try simp only [qb, qa, decide_eq_true_eq, decide_eq_false_iff_not, Bool.and_eq_true] at hc)) | refine And.intro (by first | assumption | omega | (have := qf (by assumption); omega) | (unfold qo; omega)) ?_ | simp (disch := omega) only [qd] | simp (disch := omega) only [qn]) <;> (try simp only [go_sem, ↓reduceIte, Nat.reduceEqDiff, Nat.reduceAdd, Nat.reduceSub, Nat.reduceMul, Nat.reduceLT, Nat.reduceLeDiff, reduceCtorEq, Int.reduceToNat])))
        rw [h1]; rfl
      · repeat' (first | refine qi ?_ | refine qk ?_ | ((first | refine qm ?_ | refine qcm (by rfl) ?_ | refine q9 ?_ | refine qj ?_ | refine qh ?_ | refine qg ?_) <;> (try simp (disch := first | omega | (simp only [List.length_set, List.length_append, List.length_cons, List.length_nil]; done) | (simp only [List.length_set, List.length_append, List.length_cons, List.length_nil]; omega)) only [e0, e1, e2, e3, e5, er, qd8, qc5, qcf, List.length_set, go_sem, ↓reduceIte, Nat.reduceEqDiff, Nat.reduceAdd, Nat.reduceSub, Nat.reduceMul, Nat.reduceLT, Nat.reduceLeDiff, reduceCtorEq, Int.reduceToNat])) | ((first | ((first | refine qe ?_ ?_ | refine qc ?_ ?_) <;> intro hc <;> (try simp only [hc]) <;> (try simp only [qb, qa, decide_eq_true_eq, decide_eq_false_iff_not, Bool.and_eq_true] at hc)) | refine And.intro (by first | assumption | omega | (have := qf (by assumption); omega) | (unfold qo; omega)) ?_ | simp (disch := omega) only [qd] | simp (disch := omega) only [qn]) <;> (try simp only [go_sem, ↓reduceIte, Nat.reduceEqDiff, Nat.reduceAdd, Nat.reduceSub, Nat.reduceMul, Nat.reduceLT, Nat.reduceLeDiff, reduceCtorEq, Int.reduceToNat])))
        have hen : qde (lexG s (qb9 s)).1 ++ [AV.agg [AV.int IntKind.i64 0, AV.int IntKind.i64 s.length, AV.int IntKind.i64 0, AV.str []]] = qde ((lexG s (qb9 s)).1 ++ [⟨0, s.length, 0, []⟩]) := qkf (lexG s (qb9 s)).1 ⟨0, s.length, 0, []⟩
        rw [hen]
        exact ⟨qh2 _ _, rfl⟩
    · rw [if_neg he] at ho
      rw [qsz hc he]
      have e0 := ho.e0
      have e1 := ho.e1
      have e2 := ho.e2
      obtain ⟨vs, e5⟩ := ho.e5
      have hlen := ho.len
      simp only [ranq, List.length_cons, List.length_nil, Nat.zero_add, Nat.reduceAdd, e5]
      (simp (disch := first | omega | (simp only [List.length_set, List.length_append, List.length_cons, List.length_nil]; done) | (simp only [List.length_set, List.length_append, List.length_cons, List.length_nil]; omega)) only [e0, e1, e2, e5, qd8, qc5, qcf, List.length_set, go_sem, ↓reduceIte, Nat.reduceEqDiff, Nat.reduceAdd, Nat.reduceSub, Nat.reduceMul, Nat.reduceLT, Nat.reduceLeDiff, reduceCtorEq, Int.reduceToNat])
      rfl
end Go.Proofs.Ytfjbmjplnmaclaa
