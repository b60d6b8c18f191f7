
/- the lexer's words: all words (plain) -/
import Derived.Test.YthakdbpffcicfaaLc
import Derived.Test.YthakdbpffcicfaaVs
namespace Go.Proofs.Ythakdbpffcicfaa
open Go Go.RowKit Go.V
set_option linter.unusedVariables false
set_option linter.unusedSimpArgs false

theorem wordT_len (l : List UInt8) : (wordT l).1.text.length ≤ l.length := by
  unfold wordT
  split
  · simp only [List.length_take]; omega
  · split
    · simp only [nameT, List.length_take]; omega
    · split
      · simp [T0]
      · simp only [List.length_take]; omega
theorem wordT_pos {l : List UInt8} (hl : l ≠ []) (h : (wordT l).2 = 0) : 0 < (wordT l).1.text.length := by
  have h0 := List.length_pos_iff.2 hl
  have key : ∀ f : Int → Bool, f (l.getD 0 0).toNat = true → whileW f l ≠ 0 := fun f hf => by
    have := whileW_drop (f := f) h0
    rw [List.drop_zero, if_pos hf] at this
    omega
  unfold wordT at h ⊢
  split
  · rename_i h1
    have := key _ h1
    simp only [List.length_take]; omega
  · rename_i h1
    rw [if_neg h1] at h
    split
    · rename_i h2
      have := key _ (by simp only [Bool.and_eq_true] at h2; exact h2.1)
      simp only [nameT, List.length_take]; omega
    · rename_i h2
      rw [if_neg h2] at h
      split
      · rename_i h3; rw [if_pos h3] at h; simp at h
      · have := markW_le l
        simp only [List.length_take]; omega

def lexN (s : List UInt8) (k : Nat) : Nat := k + (wordT (s.drop k)).1.text.length
def lexK (s : List UInt8) (k : Nat) : Nat := lexN s k + skipW (s.drop (lexN s k))
def lexT (s : List UInt8) (k : Nat) : T := ⟨(wordT (s.drop k)).1.kind, k, (wordT (s.drop k)).1.num, (wordT (s.drop k)).1.text⟩
abbrev LR := List T × Int × Int
def appR (a : List T) (r : LR) : LR := if r.2.2 = 0 then (a ++ r.1, r.2.1, r.2.2) else r
def lexF : Nat → List UInt8 → Nat → LR
  | 0, s, k => ([], 0, 0)
  | f + 1, s, k => if k < s.length then if (wordT (s.drop k)).2 = 0 then appR [lexT s k] (lexF f s (lexK s k)) else ([], (k : Int), (wordT (s.drop k)).2) else ([], 0, 0)
def lexG (s : List UInt8) (k : Nat) : LR := lexF (s.length - k) s k
theorem lexN_le {s : List UInt8} {k : Nat} (h : k ≤ s.length) : lexN s k ≤ s.length := by
  have := wordT_len (s.drop k)
  rw [List.length_drop] at this
  unfold lexN; omega
theorem lexK_le {s : List UInt8} {k : Nat} (h : k ≤ s.length) : lexK s k ≤ s.length := by
  have h1 := lexN_le h
  have := skipW_le (s.drop (lexN s k))
  rw [List.length_drop] at this
  unfold lexK; omega
theorem lexK_lt {s : List UInt8} {k : Nat} (h : k < s.length) (h2 : (wordT (s.drop k)).2 = 0) : k < lexK s k := by
  have := wordT_pos (l := s.drop k) (by intro e; have := congrArg List.length e; simp at this; omega) h2
  unfold lexK lexN; omega
theorem lexF_enough {s : List UInt8} : ∀ (f g k : Nat), s.length - k ≤ f → s.length - k ≤ g → lexF f s k = lexF g s k
  | 0, 0, k, _, _ => rfl
  | 0, g + 1, k, h1, h2 => by rw [lexF, lexF, if_neg (by omega)]
  | f + 1, 0, k, h1, h2 => by rw [lexF, lexF, if_neg (by omega)]
  | f + 1, g + 1, k, h1, h2 => by
    rw [lexF, lexF]
    split
    · rename_i h
      split
      · rename_i h3
        have := lexK_lt h h3
        rw [lexF_enough f g _ (by omega) (by omega)]
      · rfl
    · rfl
theorem lexG_0 {s : List UInt8} {k : Nat} (h : ¬ k < s.length) : lexG s k = ([], 0, 0) := by
  rw [lexG, show s.length - k = 0 by omega, lexF]
theorem lexG_1 {s : List UInt8} {k : Nat} (h : k < s.length) (h2 : (wordT (s.drop k)).2 = 0) : lexG s k = appR [lexT s k] (lexG s (lexK s k)) := by
  have := lexK_lt h h2
  rw [lexG, show s.length - k = (s.length - k - 1) + 1 by omega, lexF, if_pos h, if_pos h2, lexG, lexF_enough _ (s.length - lexK s k) _ (by omega) (by omega)]
theorem lexG_2 {s : List UInt8} {k : Nat} (h : k < s.length) (h2 : ¬ (wordT (s.drop k)).2 = 0) : lexG s k = ([], (k : Int), (wordT (s.drop k)).2) := by
  rw [lexG, show s.length - k = (s.length - k - 1) + 1 by omega, lexF, if_pos h, if_neg h2]
theorem appR_app (a b : List T) (r : LR) : appR a (appR b r) = appR (a ++ b) r := by
  unfold appR
  by_cases h : r.2.2 = 0
  · simp [h]
  · simp [h]
theorem appR_nil (r : LR) : appR [] r = r := by
  unfold appR
  split <;> rfl

/-- All words, where it fails, and the error. -/
def lexV (s : List UInt8) : LR :=
  if (1048576 : Int) < s.length then ([], 0, 2) else appR [] (if (lexG s (skipW s)).2.2 = 0 then ((lexG s (skipW s)).1 ++ [⟨0, s.length, 0, []⟩], 0, 0) else lexG s (skipW s))

/-! What the loop over a text's words does. -/
structure LSt (s : List UInt8) (fn : FuncId) (asn bd : Code) (tm : List (Nat × AV)) (acc : List T) (H : List Ent) : Prop where
  len : 6 ≤ H.length
  e0 : ent H 0 = .blk [.nils]
  e1 : ent H 1 = .blk [.int .i64 0]
  e2 : ent H 2 = .blk [.int .i64 0]
  e3 : ∃ out, ent H 3 = .blk [out] ∧ (acc = [] ∧ out = .nils ∨ ∃ r, 6 ≤ r ∧ out = .row r acc.length ∧ ent H r = .app 4 (encTs acc))
  e4 : ent H 4 = .blk [.str s]
  e5 : ent H 5 = .lp ⟨.ready, none, fn, [13, 14].toArray, asn, bd⟩ (tmAll 30 tm)
structure LEnd (fn : FuncId) (asn bd : Code) (tm : List (Nat × AV)) (k e : Int) (H : List Ent) : Prop where
  len : 6 ≤ H.length
  e0 : ent H 0 = .blk [.nils]
  e1 : ent H 1 = .blk [.int .i64 k]
  e2 : ent H 2 = .blk [.int .i64 e]
  e5 : ∃ vs, ent H 5 = .lp ⟨.done, some .ret, fn, [13, 14].toArray, asn, bd⟩ vs
variable {s : List UInt8} {fn : FuncId} {asn bd : Code} {tm : List (Nat × AV)} {acc : List T} {H : List Ent}
theorem gro_lt {n k i : Nat} (h : i < n) : gro n k i = i := by rw [gro, if_pos h]
theorem tmBd_ren {σ : Nat → Nat} {m n : Nat} (hσ : ∀ i, i < m → σ i = i) {tm : List (Nat × AV)} (h : tmBd m tm = true) : AV.rens σ (tmAll n tm) = tmAll n tm := rens_same hσ _ (tmAll_bd h)
theorem LSt.grow {n : Nat} {L : List Ent} (h : LSt s fn asn bd tm acc H) (hn : 6 ≤ n) (hl : n ≤ H.length) (ht : tmBd 6 tm = true) : LSt s fn asn bd tm acc (grow n L H) where
  len := by rw [grow_len hl]; omega
  e0 := by rw [ent_grow_lt hl (by omega), h.e0]; rfl
  e1 := by rw [ent_grow_lt hl (by omega), h.e1]; rfl
  e2 := by rw [ent_grow_lt hl (by omega), h.e2]; rfl
  e3 := by
    obtain ⟨out, h1, h2⟩ := h.e3
    refine ⟨out.ren (gro n L.length), by rw [ent_grow_lt hl (by omega), h1]; rfl, ?_⟩
    rcases h2 with ⟨h3, rfl⟩ | ⟨r, h3, rfl, h4⟩
    · exact .inl ⟨h3, rfl⟩
    · refine .inr ⟨gro n L.length r, by unfold gro; split <;> omega, rfl, ?_⟩
      rw [ent_grow hl, h4, Ent.ren, encTs_ren]
  e4 := by rw [ent_grow_lt hl (by omega), h.e4]; rfl
  e5 := by rw [ent_grow_lt hl (by omega), h.e5, Ent.ren, tmBd_ren (m := 6) (fun i hi => gro_lt (by omega)) ht]
theorem LEnd.grow {n : Nat} {L : List Ent} {k e : Int} (h : LEnd fn asn bd tm k e H) (hn : 6 ≤ n) (hl : n ≤ H.length) : LEnd fn asn bd tm k e (grow n L H) where
  len := by rw [grow_len hl]; omega
  e0 := by rw [ent_grow_lt hl (by omega), h.e0]; rfl
  e1 := by rw [ent_grow_lt hl (by omega), h.e1]; rfl
  e2 := by rw [ent_grow_lt hl (by omega), h.e2]; rfl
  e5 := by
    obtain ⟨vs, h5⟩ := h.e5
    exact ⟨_, by rw [ent_grow_lt hl (by omega), h5]; rfl⟩
end Go.Proofs.Ythakdbpffcicfaa
