/- Texts of this proof, joined. -/
import Derived.Test.YtfjbmjplnmaclaaGreatQaq
import Derived.Test.YtfjbmjplnmaclaaGreatQaj

/- the lexer's words: all words (plain) -/
namespace Go.Proofs.YtfjbmjplnmaclaaGreat
open Go Go.RowKit Go.V
set_option linter.unusedVariables false
set_option linter.unusedSimpArgs false

theorem q72 (l : List UInt8) : (qc8 l).1.text.length ≤ l.length := by
 unfold qc8
 split
 ·simp only [List.length_take]; omega
 ·split
  ·simp only [qxc, List.length_take]; omega
  ·split
   ·simp [T0]
   ·simp only [List.length_take]; omega
theorem qbca {l : List UInt8} (hl : l ≠ []) (h : (qc8 l).2 = 0) : 0 < (qc8 l).1.text.length := by
 have h0 := List.length_pos_iff.2 hl
 have key : ∀ f : Int → Bool, f (l.getD 0 0).toNat = true → qbg f l ≠ 0 := fun f hf => by
  have := qee (f := f) h0
  rw [List.drop_zero, if_pos hf] at this
  omega
 unfold qc8 at h ⊢
 split
 ·rename_i h1
  have := key _ h1
  simp only [List.length_take]; omega
 ·rename_i h1
  rw [if_neg h1] at h
  split
  ·rename_i h2
   have := key _ (by simp only [Bool.and_eq_true] at h2; exact h2.1)
   simp only [qxc, List.length_take]; omega
  ·rename_i h2
   rw [if_neg h2] at h
   split
   ·rename_i h3; rw [if_pos h3] at h; simp at h
   ·have := qvz l
    simp only [List.length_take]; omega

def lexN (s : List UInt8) (k : Nat) : Nat := k + (qc8 (s.drop k)).1.text.length
def lexK (s : List UInt8) (k : Nat) : Nat := lexN s k + qc4 (s.drop (lexN s k))
def lexT (s : List UInt8) (k : Nat) : T := ⟨(qc8 (s.drop k)).1.kind, k, (qc8 (s.drop k)).1.num, (qc8 (s.drop k)).1.text⟩
abbrev LR := List T × Int × Int
def appR (a : List T) (r : LR) : LR := if r.2.2 = 0 then (a ++ r.1, r.2.1, r.2.2) else r
def lexF : Nat → List UInt8 → Nat → LR
 | 0, s, k => ([], 0, 0)
 | f + 1, s, k => if k < s.length then if (qc8 (s.drop k)).2 = 0 then appR [lexT s k] (lexF f s (lexK s k)) else ([], (k : Int), (qc8 (s.drop k)).2) else ([], 0, 0)
def lexG (s : List UInt8) (k : Nat) : LR := lexF (s.length - k) s k
theorem q1e {s : List UInt8} {k : Nat} (h : k ≤ s.length) : lexN s k ≤ s.length := by
 have := q72 (s.drop k)
 rw [List.length_drop] at this
 unfold lexN; omega
theorem q0c {s : List UInt8} {k : Nat} (h : k ≤ s.length) : lexK s k ≤ s.length := by
 have h1 := q1e h
 have := qwl (s.drop (lexN s k))
 rw [List.length_drop] at this
 unfold lexK; omega
theorem qon {s : List UInt8} {k : Nat} (h : k < s.length) (h2 : (qc8 (s.drop k)).2 = 0) : k < lexK s k := by
 have := qbca (l := s.drop k) (by intro e; have := congrArg List.length e; simp at this; omega) h2
 unfold lexK lexN; omega
theorem qrb {s : List UInt8} : ∀ (f g k : Nat), s.length - k ≤ f → s.length - k ≤ g → lexF f s k = lexF g s k
 | 0, 0, k, _, _ => rfl
 | 0, g + 1, k, h1, h2 => by rw [lexF, lexF, if_neg (by omega)]
 | f + 1, 0, k, h1, h2 => by rw [lexF, lexF, if_neg (by omega)]
 | f + 1, g + 1, k, h1, h2 => by
   rw [lexF, lexF]
   split
   ·rename_i h
    split
    ·rename_i h3
     have := qon h h3
     rw [qrb f g _ (by omega) (by omega)]
    ·rfl
   ·rfl
theorem qx6 {s : List UInt8} {k : Nat} (h : ¬ k < s.length) : lexG s k = ([], 0, 0) := by
 rw [lexG, show s.length - k = 0 by omega, lexF]
theorem qbao {s : List UInt8} {k : Nat} (h : k < s.length) (h2 : (qc8 (s.drop k)).2 = 0) : lexG s k = appR [lexT s k] (lexG s (lexK s k)) := by
 have := qon h h2
 rw [lexG, show s.length - k = (s.length - k - 1) + 1 by omega, lexF, if_pos h, if_pos h2, lexG, qrb _ (s.length - lexK s k) _ (by omega) (by omega)]
theorem qzo {s : List UInt8} {k : Nat} (h : k < s.length) (h2 : ¬ (qc8 (s.drop k)).2 = 0) : lexG s k = ([], (k : Int), (qc8 (s.drop k)).2) := by
 rw [lexG, show s.length - k = (s.length - k - 1) + 1 by omega, lexF, if_pos h, if_neg h2]
theorem qvc (a b : List T) (r : LR) : appR a (appR b r) = appR (a ++ b) r := by
 unfold appR
 by_cases h : r.2.2 = 0
 ·simp [h]
 ·simp [h]
theorem qqg (r : LR) : appR [] r = r := by
 unfold appR
 split <;> rfl

def lexV (s : List UInt8) : LR :=
 if (1048576 : Int) < s.length then ([], 0, 2) else appR [] (if (lexG s (qc4 s)).2.2 = 0 then ((lexG s (qc4 s)).1 ++ [⟨0, s.length, 0, []⟩], 0, 0) else lexG s (qc4 s))

/-! What the loop over a text's words does. -/
structure LSt (s : List UInt8) (fn : FuncId) (asn bd : Code) (tm : List (Nat × AV)) (acc : List T) (H : List Ent) : Prop where
 len : 6 ≤ H.length
 e0 : ent H 0 = .blk [.nils]
 e1 : ent H 1 = .blk [.int .i64 0]
 e2 : ent H 2 = .blk [.int .i64 0]
 e3 : ∃ out, ent H 3 = .blk [out] ∧ (acc = [] ∧ out = .nils ∨ ∃ r, 6 ≤ r ∧ out = .row r acc.length ∧ ent H r = .app 4 (qcv acc))
 e4 : ent H 4 = .blk [.str s]
 e5 : ent H 5 = .lp ⟨.ready, none, fn, [13, 14].toArray, asn, bd⟩ (ql3 30 tm)
structure LEnd (fn : FuncId) (asn bd : Code) (tm : List (Nat × AV)) (k e : Int) (H : List Ent) : Prop where
 len : 6 ≤ H.length
 e0 : ent H 0 = .blk [.nils]
 e1 : ent H 1 = .blk [.int .i64 k]
 e2 : ent H 2 = .blk [.int .i64 e]
 e5 : ∃ vs, ent H 5 = .lp ⟨.done, some .ret, fn, [13, 14].toArray, asn, bd⟩ vs
variable {s : List UInt8} {fn : FuncId} {asn bd : Code} {tm : List (Nat × AV)} {acc : List T} {H : List Ent}
theorem qcjj {n k i : Nat} (h : i < n) : gro n k i = i := by rw [gro, if_pos h]
theorem qbgm {σ : Nat → Nat} {m n : Nat} (hσ : ∀ i, i < m → σ i = i) {tm : List (Nat × AV)} (h : tmBd m tm = true) : AV.rens σ (ql3 n tm) = ql3 n tm := qco hσ _ (q3y h)
theorem LSt.grow {n : Nat} {L : List Ent} (h : LSt s fn asn bd tm acc H) (hn : 6 ≤ n) (hl : n ≤ H.length) (ht : tmBd 6 tm = true) : LSt s fn asn bd tm acc (grow n L H) where
 len := by rw [qwy hl]; omega
 e0 := by rw [qdn hl (by omega), h.e0]; rfl
 e1 := by rw [qdn hl (by omega), h.e1]; rfl
 e2 := by rw [qdn hl (by omega), h.e2]; rfl
 e3 := by
  obtain ⟨out, h1, h2⟩ := h.e3
  refine ⟨out.ren (gro n L.length), by rw [qdn hl (by omega), h1]; rfl, ?_⟩
  rcases h2 with ⟨h3, rfl⟩ | ⟨r, h3, rfl, h4⟩
  ·exact .inl ⟨h3, rfl⟩
  ·refine .inr ⟨gro n L.length r, by unfold gro; split <;> omega, rfl, ?_⟩
   rw [qbh6 hl, h4, Ent.ren, qk1]
 e4 := by rw [qdn hl (by omega), h.e4]; rfl
 e5 := by rw [qdn hl (by omega), h.e5, Ent.ren, qbgm (m := 6) (fun i hi => qcjj (by omega)) ht]
theorem LEnd.grow {n : Nat} {L : List Ent} {k e : Int} (h : LEnd fn asn bd tm k e H) (hn : 6 ≤ n) (hl : n ≤ H.length) : LEnd fn asn bd tm k e (grow n L H) where
 len := by rw [qwy hl]; omega
 e0 := by rw [qdn hl (by omega), h.e0]; rfl
 e1 := by rw [qdn hl (by omega), h.e1]; rfl
 e2 := by rw [qdn hl (by omega), h.e2]; rfl
 e5 := by
  obtain ⟨vs, h5⟩ := h.e5
  exact ⟨_, by rw [qdn hl (by omega), h5]; rfl⟩
set_option maxRecDepth 4000
variable {s : List UInt8} {fn : FuncId} {asn bd : Code} {tm : List (Nat × AV)} {acc : List T} {H : List Ent}

attribute [go_sem] qbjv
theorem qbmv {h : Nat} (hn : h ≠ 0) {α : Type} (a b : α) : (if 0 = h then a else b) = b := if_neg (Ne.symm hn)
theorem qbb3 (ha : qdl Tryz.prog 30 asn = some (.seq qvy qws)) (hb : qdl Tryz.prog 30 bd = some q0v)
 (h2 : get tm 2 = .ptr 0 0) (h3 : get tm 3 = .ptr 1 0) (h4 : get tm 4 = .ptr 2 0) (h5 : get tm 5 = .ptr 3 0)
 (t : T) (e : Int) (hs : LSt s fn asn bd tm acc H) (hacc : acc.length ≤ 1048576) :
 VApp Tryz.prog H (.opq 5) [encT t, .int .i64 e] (fun H' o => H.length ≤ H'.length ∧ (if e = 0 then LSt s fn asn bd tm (acc ++ [t]) H' ∧ o = .val (.bool true) else LEnd fn asn bd tm t.pos e H' ∧ o = .val (.bool false))) := by
 have e0 := hs.e0
 have e1 := hs.e1
 have e2 := hs.e2
 have e4 := hs.e4
 have e5 := hs.e5
 have hlen := hs.len
 obtain ⟨out, e3, hout⟩ := hs.e3
 refine q1f e5 rfl (by simp [ql3]) ha hb (by simp) (by simp) fun lp => ?_
 rcases hout with ⟨rfl, rfl⟩ | ⟨r, hr, rfl, er⟩
 ·repeat' (first | refine vs_ ?_ | ((first | refine vr_ ?_ | fail) <;> (try simp (disch := first | omega | (simp only [List.length_set, List.length_append, List.length_cons, List.length_nil]; done) | (simp only [List.length_set, List.length_append, List.length_cons, List.length_nil]; omega)) only [h2, h3, h4, h5, e0, e1, e2, e3, e4, e5, qgj, qd4, qc6, List.length_set, go_sem, ↓reduceIte])) | ((first | (refine cs_ ?_ ?_ <;> intro hc) | refine cj_ ?_ | simp (disch := omega) only [qh, qs]) <;> (try refine ev_ ?_)) | with_reducible exact ti_)
  ·refine ⟨by rw [qbmv (by omega)], ?_⟩
   repeat' (first | refine vs_ ?_ | ((first | refine vr_ ?_ | fail) <;> (try simp (disch := first | omega | (simp only [List.length_set, List.length_append, List.length_cons, List.length_nil]; done) | (simp only [List.length_set, List.length_append, List.length_cons, List.length_nil]; omega)) only [h2, h3, h4, h5, e0, e1, e2, e3, e4, e5, qgj, qd4, qc6, List.length_set, go_sem, ↓reduceIte])) | ((first | (refine cs_ ?_ ?_ <;> intro hc) | refine cj_ ?_ | simp (disch := omega) only [qh, qs]) <;> (try refine ev_ ?_)) | with_reducible exact ti_)
   rw [if_neg hc]
   refine ⟨by simp only [List.length_set, List.length_append, List.length_cons, List.length_nil]; omega, ?_, ?_, ?_, ql3 30 tm, ?_⟩ <;> simp (disch := first | omega | (simp only [List.length_set, List.length_append, List.length_cons, List.length_nil]; omega)) only [e0, e1, e2, e3, e4, e5, qgj, qd4, qc6]
  ·rw [if_pos hc]
   refine ⟨by simp; omega, ?_, ?_, ?_, ⟨_, ?_, .inr ⟨H.length + 1, by omega, rfl, ?_⟩⟩, ?_, ?_⟩ <;> simp (disch := first | omega | (simp only [List.length_set, List.length_append, List.length_cons, List.length_nil]; omega)) only [e0, e1, e2, e3, e4, e5, qgj, qd4, qc6]
   ·rfl
   ·rw [qvl (by simp)]; simp [ent, qcv]
 ·have hrl : r < H.length := by
   apply Decidable.byContradiction
   intro h
   rw [qckp (by omega)] at er
   cases er
  repeat' (first | refine vs_ ?_ | ((first | refine vr_ ?_ | fail) <;> (try simp (disch := first | omega | (simp only [List.length_set, List.length_append, List.length_cons, List.length_nil]; done) | (simp only [List.length_set, List.length_append, List.length_cons, List.length_nil]; omega)) only [h2, h3, h4, h5, e0, e1, e2, e3, e4, e5, er, qgj, qd4, qc6, List.length_set, go_sem, ↓reduceIte])) | ((first | (refine cs_ ?_ ?_ <;> intro hc) | refine cj_ ?_ | simp (disch := omega) only [qh, qs]) <;> (try refine ev_ ?_)) | with_reducible exact ti_)
  ·refine ⟨by rw [qbmv (by omega)], ?_⟩
   repeat' (first | refine vs_ ?_ | ((first | refine vr_ ?_ | fail) <;> (try simp (disch := first | omega | (simp only [List.length_set, List.length_append, List.length_cons, List.length_nil]; done) | (simp only [List.length_set, List.length_append, List.length_cons, List.length_nil]; omega)) only [h2, h3, h4, h5, e0, e1, e2, e3, e4, e5, qgj, qd4, qc6, List.length_set, go_sem, ↓reduceIte])) | ((first | (refine cs_ ?_ ?_ <;> intro hc) | refine cj_ ?_ | simp (disch := omega) only [qh, qs]) <;> (try refine ev_ ?_)) | with_reducible exact ti_)
   rw [if_neg hc]
   refine ⟨by simp only [List.length_set, List.length_append, List.length_cons, List.length_nil]; omega, ?_, ?_, ?_, ql3 30 tm, ?_⟩ <;> simp (disch := first | omega | (simp only [List.length_set, List.length_append, List.length_cons, List.length_nil]; omega)) only [e0, e1, e2, e3, e4, e5, qgj, qd4, qc6]
  ·rw [if_pos hc]
   refine ⟨by simp; omega, ?_, ?_, ?_, ⟨_, ?_, .inr ⟨H.length + 1, by omega, rfl, ?_⟩⟩, ?_, ?_⟩ <;> simp (disch := first | omega | (simp only [List.length_set, List.length_append, List.length_cons, List.length_nil]; omega)) only [e0, e1, e2, e3, e4, e5, qgj, qd4, qc6]
   ·simp
   ·rw [qvl (by simp)]; simp [ent, qcv]
set_option maxRecDepth 4000
variable {s : List UInt8} {fn : FuncId} {asn bd : Code} {tm : List (Nat × AV)} {acc : List T} {H : List Ent}

theorem qba1 (ha : qdl Tryz.prog 30 asn = some (.seq qvy qws)) (hb : qdl Tryz.prog 30 bd = some q0v)
 (h2 : get tm 2 = .ptr 0 0) (h3 : get tm 3 = .ptr 1 0) (h4 : get tm 4 = .ptr 2 0) (h5 : get tm 5 = .ptr 3 0) (ht : tmBd 6 tm = true)
 (hs : LSt s fn asn bd tm [] H) (hl : s.length ≤ 1048576) :
 VCalls Tryz.prog 99 H [.opq 5, .ptr 4 0] (fun H' o => o = .val (.tup []) ∧ H.length ≤ H'.length ∧
  (if (lexG s (qc4 s)).2.2 = 0 then LSt s fn asn bd tm (lexG s (qc4 s)).1 H' else LEnd fn asn bd tm (lexG s (qc4 s)).2.1 (lexG s (qc4 s)).2.2 H')) := by
 have hcap : s.length ≤ maxLen := by unfold maxLen; omega
 have e4 := hs.e4
 have hlen := hs.len
 refine qxj c0di (by simp) (qcio fun hbd => ?_)
 repeat' (first | refine vs_ ?_ | ((first | refine vr_ ?_ | fail) <;> (try simp only [e4, go_sem, ↓reduceIte])) | ((first | (refine cs_ ?_ ?_ <;> intro hc) | refine cj_ ?_ | simp (disch := omega) only [qh, qs] | refine qa (quf _) fun _ => ?_) <;> (try refine ev_ ?_)) | with_reducible exact ti_)
 have hk0 := qwl s
 refine qbm (S := Nat × List T × List Ent) (fun x => x.1 ≤ s.length ∧ lexG s (qc4 s) = appR x.2.1 (lexG s x.1) ∧ x.2.1.length ≤ x.1 ∧ LSt s fn asn bd tm x.2.1 x.2.2 ∧ H.length ≤ x.2.2.length ∧ x.2.2.all (Ent.bd x.2.2.length) = true)
  (fun x => (⟨[(0, .opq 5), (1, .ptr 4 0), (3, .int .i64 x.1)], []⟩, x.2.2)) (fun x => s.length - x.1) ?_ ?_
 ·refine q11 (qc4 s, [], H) [] ⟨hk0, (qqg _).symm, Nat.zero_le _, hs, Nat.le_refl _, hbd⟩ (Nat.le_refl _) (by simp) hbd ?_ rfl rfl
  (refine ev_ ?_; (try with_reducible exact ti_))
  exact ⟨decide_eq_true (by omega), decide_eq_true (by omega)⟩
 ·rintro ⟨k, acc, H1⟩ ⟨hk, hG, hacc, hs1, hH1, hbd1⟩
  have f4 := hs1.e4
  have hlen1 := hs1.len
  simp only at hk hG hacc hH1 hbd1 f4 hlen1 hs1
  repeat' (first | refine vs_ ?_ | ((first | refine vr_ ?_ | fail) <;> (try simp only [f4, go_sem, ↓reduceIte])) | ((first | (refine cs_ ?_ ?_ <;> intro hc) | refine cj_ ?_ | simp (disch := omega) only [qh, qs] | refine qa (q5q _ (by simp; omega)) fun _ => ?_) <;> (try refine ev_ ?_)) | with_reducible exact ti_)
  ·have hk1 : k < s.length := by omega
   refine qbfq (qbb3 ha hb h2 h3 h4 h5 (lexT s k) (qc8 (s.drop k)).2 hs1 (by omega)) hbd1 (by simp only [AV.bd]; exact decide_eq_true (by omega)) rfl fun H2 o ho => ⟨ho.1, ?_⟩
   obtain ⟨hl2, ho⟩ := ho
   have em := fun L => qyd (L := [L]) (j := 0) hl2 (by simp)
   have hl3 := fun L => qwy (L := L) hl2
   by_cases he : (qc8 (s.drop k)).2 = 0
   ·rw [if_pos he] at ho
    obtain ⟨hs2, rfl⟩ := ho
    have hs3 := fun L => hs2.grow (L := L) (n := H1.length) (by omega) hl2 ht
    specialize em (.blk [AV.int IntKind.i64 (qc8 (List.drop k s)).fst.kind, AV.int IntKind.i64 k, AV.int IntKind.i64 (qc8 (List.drop k s)).fst.num, AV.str (qc8 (List.drop k s)).fst.text])
    specialize hs3 [.blk [AV.int IntKind.i64 (qc8 (List.drop k s)).fst.kind, AV.int IntKind.i64 k, AV.int IntKind.i64 (qc8 (List.drop k s)).fst.num, AV.str (qc8 (List.drop k s)).fst.text]]
    specialize hl3 [.blk [AV.int IntKind.i64 (qc8 (List.drop k s)).fst.kind, AV.int IntKind.i64 k, AV.int IntKind.i64 (qc8 (List.drop k s)).fst.num, AV.str (qc8 (List.drop k s)).fst.text]]
    generalize grow H1.length _ H2 = H3 at em hs3 hl3 ⊢
    have f4 := hs3.e4
    simp only [List.length_cons, List.length_nil] at hl3
    simp only [Nat.add_zero, ent] at em
    have hn := q1e hk
    (refine ev_ ?_; (try with_reducible exact ti_))
    refine qcio fun hbd3 => ?_
    have hk2 := q0c hk
    have w1 : IntKind.i64.wrap ((k : Int) + ((qc8 (List.drop k s)).1.text.length : Nat)) = (lexN s k : Nat) := by
     rw [qe9 (by unfold lexN at hn; omega) (by unfold lexN at hn; omega)]; rfl
    have w2 : IntKind.i64.wrap ((lexN s k : Nat) + (qc4 (s.drop (lexN s k)) : Nat) : Int) = (lexK s k : Nat) := by
     rw [qe9 (by unfold lexK at hk2; omega) (by unfold lexK at hk2; omega)]; rfl
    repeat' (first | refine vs_ ?_ | ((first | refine vr_ ?_ | fail) <;> (try simp only [f4, em, w1, w2, go_sem, ↓reduceIte])) | ((first | (refine cs_ ?_ ?_ <;> intro hc) | refine cj_ ?_ | simp (disch := omega) only [qh, qs] | refine qa (quf _) fun _ => ?_) <;> (try refine ev_ ?_)) | with_reducible exact ti_)
    have hlt := qon hk1 he
    refine q11 (lexK s k, acc ++ [lexT s k], H3) [] ⟨⟨hk2, ?_, ?_, hs3, by simp only; omega, hbd3⟩, by simp only; omega⟩ (by simp only; omega) (by simp) hbd3 ?_ rfl rfl
    ·simp only
     rw [hG, qbao hk1 he, qvc]
    ·simp only [List.length_append, List.length_cons, List.length_nil]; omega
    ·(refine ev_ ?_; (try with_reducible exact ti_))
     exact ⟨decide_eq_true (by omega), decide_eq_true (by omega), by rw [w2]⟩
   ·rw [if_neg he] at ho
    obtain ⟨hs2, rfl⟩ := ho
    have hs3 := hs2.grow (L := [.blk [AV.int IntKind.i64 (qc8 (List.drop k s)).fst.kind, AV.int IntKind.i64 k, AV.int IntKind.i64 (qc8 (List.drop k s)).fst.num, AV.str (qc8 (List.drop k s)).fst.text]]) (n := H1.length) (by omega) hl2
    specialize hl3 [.blk [AV.int IntKind.i64 (qc8 (List.drop k s)).fst.kind, AV.int IntKind.i64 k, AV.int IntKind.i64 (qc8 (List.drop k s)).fst.num, AV.str (qc8 (List.drop k s)).fst.text]]
    generalize grow H1.length _ H2 = H3 at hs3 hl3 ⊢
    (refine ev_ ?_; (try with_reducible exact ti_))
    repeat' (first | refine vs_ ?_ | ((first | refine vr_ ?_ | (refine cs_ ?_ ?_ <;> intro hc) | refine cj_ ?_ | simp (disch := omega) only [qh, qs]) <;> (try refine ev_ ?_)) | with_reducible exact ti_)
    have hr : lexG s (qc4 s) = ([], (k : Int), (qc8 (s.drop k)).2) := by
     rw [hG, qzo hk1 he, appR, if_neg he]
    rw [hr, if_neg he]
    exact hs3
  ·rw [hG, qx6 (by omega)]
   simp only [appR, if_true, List.append_nil]
   exact hs1
set_option maxRecDepth 4000

theorem q0o (s : List UInt8) : VCalls Tryz.prog 58 [] [.str s] (fun H1 o => H1 = [.blk [.str s]] ∧ o = .val (.fn 99 [] [.ptr 0 0])) := by
 refine qp c0dg 1 (by simp) (by simp) ?_
 repeat' (first | refine vs_ ?_ | ((first | refine vr_ ?_ | (refine cs_ ?_ ?_ <;> intro hc) | refine cj_ ?_ | fail) <;> (try refine ev_ ?_)) | with_reducible exact ti_)
theorem q54 {s : List UInt8} {H : List Ent} {Q : List Ent → VO → Prop} (h : Q (H ++ [.blk [.str s]]) (.val (.fn 99 [] [.ptr H.length 0]))) : VApp Tryz.prog H (.fn 58 [] []) [.str s] Q :=
 qw0 (q0o s) rfl (by rintro _ _ ⟨rfl, rfl⟩; simpa [qhe, qbw, sg', VO.ren, AV.ren, AV.rens, Ent.ren] using h)
def lexR (r : LR) : AV := .tup [.sl 4 (qcv r.1), .int .i64 r.2.1, .int .i64 r.2.2]
theorem qpz {s : List UInt8} (h : 1048576 < (s.length : Int)) : lexV s = ([], 0, 2) := if_pos h
theorem qrx {s : List UInt8} (h : ¬ 1048576 < (s.length : Int)) (he : (lexG s (qc4 s)).2.2 = 0) : lexV s = ((lexG s (qc4 s)).1 ++ [⟨0, s.length, 0, []⟩], 0, 0) := by
 rw [lexV, if_neg h, if_pos he, qqg]
theorem q3g {s : List UInt8} : ∀ (f k : Nat), (lexF f s k).2.2 ≠ 0 → (lexF f s k).1 = []
 | 0, k, h => absurd rfl h
 | f + 1, k, h => by
   rw [lexF] at h ⊢
   split
   ·rename_i h1
    rw [if_pos h1] at h
    split
    ·rename_i h2
     rw [if_pos h2] at h
     unfold appR at h ⊢
     split
     ·rename_i h3; rw [if_pos h3] at h; exact absurd h3 h
     ·rename_i h3; rw [if_neg h3] at h; exact q3g f _ h
    ·rfl
   ·rfl
theorem qwu {s : List UInt8} : ∀ (f k : Nat), (lexF f s k).1.length ≤ s.length - k
 | 0, k => Nat.zero_le _
 | f + 1, k => by
   rw [lexF]
   split
   ·rename_i h1
    split
    ·rename_i h2
     have := qwu (s := s) f (lexK s k)
     have := qon h1 h2
     have := q0c (Nat.le_of_lt h1)
     unfold appR
     split
     ·simp only [List.length_append, List.length_cons, List.length_nil]; omega
     ·omega
    ·exact Nat.zero_le _
   ·exact Nat.zero_le _
theorem qna {s : List UInt8} (h : ¬ 1048576 < (s.length : Int)) (he : ¬ (lexG s (qc4 s)).2.2 = 0) : lexV s = ([], (lexG s (qc4 s)).2.1, (lexG s (qc4 s)).2.2) := by
 rw [lexV, if_neg h, if_neg he, qqg, ← show (lexG s (qc4 s)).1 = [] from q3g _ _ he]
theorem qzs (s : List UInt8) : qz Tryz.prog 30 [.str s] (lexR (lexV s)) := by
 refine qj c0dh (by simp) (by simp only [go_sem]) (by simp only [lexR, go_sem]) fun hw => ?_
 have hl : s.length ≤ maxLen := hw.1
 repeat' (first | refine vs_ ?_ | ((first | refine vr_ ?_ | refine q54 ?_ | (refine cs_ ?_ ?_ <;> intro hc) | refine cj_ ?_ | fail) <;> (try refine ev_ ?_)) | with_reducible exact ti_)
 ·rw [qpz hc]; rfl
 ·refine q8j rfl (by simp) fun fn asn bd ha hb => ?_
  refine (qba1 (s := s) ha hb rfl rfl rfl rfl rfl ⟨by simp, rfl, rfl, rfl, ⟨.nils, rfl, .inl ⟨rfl, rfl⟩⟩, rfl, rfl⟩ (by omega)).mono fun H' o ho => ?_
  obtain ⟨rfl, hl2, ho⟩ := ho
  have hll : (lexG s (qc4 s)).1.length ≤ 1048576 := by have := qwu (s := s) (s.length - qc4 s) (qc4 s); unfold lexG; omega
  clear hl2
  by_cases he : (lexG s (qc4 s)).2.2 = 0
  ·rw [if_pos he] at ho
   rw [qrx hc he]
   have e0 := ho.e0
   have e1 := ho.e1
   have e2 := ho.e2
   have e5 := ho.e5
   have hlen := ho.len
   obtain ⟨out, e3, hout⟩ := ho.e3
   simp only [ranq, List.length_cons, List.length_nil, Nat.zero_add, Nat.reduceAdd, e5]
   rcases hout with ⟨h1, rfl⟩ | ⟨r, hr, rfl, er⟩
   ·repeat' (first | refine vs_ ?_ | ((first | refine vr_ ?_ | fail) <;> (try simp (disch := first | omega | (simp only [List.length_set, List.length_append, List.length_cons, List.length_nil]; done) | (simp only [List.length_set, List.length_append, List.length_cons, List.length_nil]; omega)) only [e0, e1, e2, e3, e5, qgj, qd4, qc6, List.length_set, go_sem, ↓reduceIte])) | ((first | (refine cs_ ?_ ?_ <;> intro hc) | refine cj_ ?_ | fail) <;> (try refine ev_ ?_)) | with_reducible exact ti_)
    rw [h1]; rfl
   ·repeat' (first | refine vs_ ?_ | ((first | refine vr_ ?_ | fail) <;> (try simp (disch := first | omega | (simp only [List.length_set, List.length_append, List.length_cons, List.length_nil]; done) | (simp only [List.length_set, List.length_append, List.length_cons, List.length_nil]; omega)) only [e0, e1, e2, e3, e5, er, qgj, qd4, qc6, List.length_set, go_sem, ↓reduceIte])) | ((first | (refine cs_ ?_ ?_ <;> intro hc) | refine cj_ ?_ | fail) <;> (try refine ev_ ?_)) | with_reducible exact ti_)
    have hen : qcv (lexG s (qc4 s)).1 ++ [AV.agg [AV.int IntKind.i64 0, AV.int IntKind.i64 s.length, AV.int IntKind.i64 0, AV.str []]] = qcv ((lexG s (qc4 s)).1 ++ [⟨0, s.length, 0, []⟩]) := qga (lexG s (qc4 s)).1 ⟨0, s.length, 0, []⟩
    rw [hen]
    exact ⟨qio _ _, rfl⟩
  ·rw [if_neg he] at ho
   rw [qna hc he]
   have e0 := ho.e0
   have e1 := ho.e1
   have e2 := ho.e2
   obtain ⟨vs, e5⟩ := ho.e5
   have hlen := ho.len
   simp only [ranq, List.length_cons, List.length_nil, Nat.zero_add, Nat.reduceAdd, e5]
   (simp (disch := first | omega | (simp only [List.length_set, List.length_append, List.length_cons, List.length_nil]; done) | (simp only [List.length_set, List.length_append, List.length_cons, List.length_nil]; omega)) only [e0, e1, e2, e5, qgj, qd4, qc6, List.length_set, go_sem, ↓reduceIte])
   rfl
end Go.Proofs.YtfjbmjplnmaclaaGreat
