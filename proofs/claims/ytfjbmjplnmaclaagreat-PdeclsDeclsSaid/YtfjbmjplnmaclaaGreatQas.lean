/- A text of this proof. -/
import Derived.Test.YtfjbmjplnmaclaaGreatQar
import Derived.Test.YtfjbmjplnmaclaaGreatQaj

/- the lexer's words: the reference -/
set_option maxRecDepth 4000
namespace Go.Proofs.YtfjbmjplnmaclaaGreat
open Go Go.RowKit Go.V
set_option linter.unusedVariables false
set_option linter.unusedSimpArgs false

theorem qjp (f : Int → Bool) : ∀ l : List UInt8, (l.take (qbg f l)).all (fun c => f c.toNat) = true
 | [] => rfl
 | c :: r => by
   unfold qbg
   rw [List.takeWhile_cons]
   by_cases h : f c.toNat = true
   ·rw [if_pos h]
    simp only [List.length_cons, List.take_succ_cons, List.all_cons, h, Bool.true_and]
    exact qjp f r
   ·rw [if_neg h]; rfl
theorem qrf {f : Int → Bool} {c : UInt8} {r : List UInt8} (h : f c.toNat = true) : qbg f (c :: r) = qbg f r + 1 := by
 unfold qbg; rw [List.takeWhile_cons, if_pos h, List.length_cons]
theorem qbax {l : List UInt8} (hl : l ≠ []) (h : onW (l.getD 0 0).toNat = true) : conW (l.take (qbg onW l)) = qke (l.getD 0 0).toNat := by
 cases l with
 | nil => exact absurd rfl hl
 | cons c r =>
   have h : onW c.toNat = true := h
   have hx : onsW (List.take (qbg onW (c :: r)) (c :: r)) = true := qjp onW (c :: r)
   rw [qrf h] at hx ⊢
   rw [List.take_succ_cons] at hx ⊢
   unfold conW
   rw [hx]
   simp
theorem qrr {l : List UInt8} (h : qcm (l.getD 0 0).toNat = true) : qc8 l = (⟨3, 0, (qpo (l.take (qbg qcm l))).1, l.take (qbg qcm l)⟩, (qpo (l.take (qbg qcm l))).2) := if_pos h
theorem q2h {l : List UInt8} (h : qcm (l.getD 0 0).toNat = false) (h2 : (onW (l.getD 0 0).toNat && !decide (((l.getD 0 0).toNat : Int) = 39)) = true) : qc8 l = (qxc (l.take (qbg onW l)), 0) := by
 rw [qc8, h, if_neg Bool.false_ne_true, if_pos h2]
theorem q26 {l : List UInt8} (h : qcm (l.getD 0 0).toNat = false) (h2 : (onW (l.getD 0 0).toNat && !decide (((l.getD 0 0).toNat : Int) = 39)) = false) (h3 : qkh l = 0) : qc8 l = (T0, 3) := by
 rw [qc8, h, if_neg Bool.false_ne_true, h2, if_neg Bool.false_ne_true, if_pos h3]
theorem qul {l : List UInt8} (h : qcm (l.getD 0 0).toNat = false) (h2 : (onW (l.getD 0 0).toNat && !decide (((l.getD 0 0).toNat : Int) = 39)) = false) (h3 : qkh l ≠ 0) : qc8 l = (⟨5, 0, 0, l.take (qkh l)⟩, 0) := by
 rw [qc8, h, if_neg Bool.false_ne_true, h2, if_neg Bool.false_ne_true, if_neg h3]
theorem qbaw {c : Int} (h : qcm c = false) : (onW c && !decide (c = 39)) = (qmb c || qke c) := by
 unfold onW
 rw [h]
 by_cases h39 : c = 39
 ·subst h39; rfl
 ·simp [h39]
theorem q0j {l : List UInt8} {n : Nat} (hl : l ≠ []) (hn : n ≠ 0) : l.take n ≠ [] := by
 cases l with
 | nil => exact absurd rfl hl
 | cons c r => cases n with
   | zero => exact absurd rfl hn
   | succ n => simp

theorem qr1 {f : Int → Bool} {l : List UInt8} {n : Nat} (hn : n ≤ l.length) (ha : qbg f l = n + qbg f (l.drop n)) (h : ¬ (n : Int) < l.length) : n = qbg f l := by
 have : l.drop n = [] := List.drop_of_length_le (by omega)
 rw [this] at ha
 exact ha.symm
theorem qu1 {f : Int → Bool} {l : List UInt8} {n : Nat} (ha : qbg f l = n + qbg f (l.drop n)) (hn : (n : Int) < l.length) (h : f (l.getD n 0).toNat = false) : n = qbg f l := by
 rw [ha, qee (by omega), if_neg (by rw [h]; simp)]; rfl
theorem qof {f : Int → Bool} {l : List UInt8} {n : Nat} (ha : qbg f l = n + qbg f (l.drop n)) (hn : (n : Int) < l.length) (h : f (l.getD n 0).toNat = true) : qbg f l = (n + 1) + qbg f (l.drop (n + 1)) := by
 rw [ha, qee (by omega), if_pos h]; omega
theorem qta {l : List UInt8} (hne : l ≠ []) (hd : qcm (l.getD 0 0).toNat = false) (hs : qmb (l.getD 0 0).toNat = true ∨ qke (l.getD 0 0).toNat = true) {n : Nat} (hn : n = qbg onW l) :
 qc8 l = (⟨if l.take n = [95] then 5 else if resW (l.take n) then 4 else if qke (l.getD 0 0).toNat then 2 else 1, 0, 0, l.take n⟩, 0) := by
 subst hn
 have hon : onW (l.getD 0 0).toNat = true := by unfold onW; rcases hs with h | h <;> rw [h] <;> simp only [Bool.true_or, Bool.or_true]
 rw [q2h hd (by rw [qbaw hd]; rcases hs with h | h <;> rw [h] <;> simp only [Bool.true_or, Bool.or_true]), qxc, qbdx, qbax hne hon]
theorem qtj (l : List UInt8) (hne : l ≠ []) : qz Tryz.prog 41 [.str l] (qbjv (qc8 l)) := by
 refine qj c0de (by simp) (by simp only [go_sem]) rfl fun hw => ?_
 have hl : l.length ≤ maxLen := hw.1
 have h1 := qg3 qcm l
 have h2 := qg3 onW l
 have h3 := qvz l
 have h4 := List.length_pos_iff.2 hne
 repeat' (first | refine vs_ ?_ | ((first | refine vr_ ?_ | refine qa (qmt _) fun _ => ?_ | refine qa (qrd _) fun _ => ?_ | refine qa (qjj _) fun _ => ?_ | refine qa (q4z _ hne) fun _ => ?_ | (refine cs_ ?_ ?_ <;> intro hc) | refine cj_ ?_ | simp (disch := omega) only [qh, qs]) <;> (try refine ev_ ?_)) | with_reducible exact ti_)
 ·refine qbm (S := Nat) (fun n => n ≤ l.length ∧ qbg qcm l = n + qbg qcm (l.drop n)) (fun n => (⟨[(0, .str l), (2, .ptr 0 0), (3, .int .i64 0), (4, .int .i64 n)], []⟩, [.blk [.int .i64 0, .int .i64 0, .int .i64 0, .str []]])) (fun n => l.length - n) ?_ fun n hn => ?_
  ·refine q8 0 [0] ⟨Nat.zero_le _, by simp⟩ rfl (by simp) ?_ ?_ ?_ <;> (try refine ev_ ?_) <;> (try with_reducible exact ti_) <;> (try simp (disch := omega) only [qs, and_true, true_and])
  ·obtain ⟨hn, ha⟩ := hn
   repeat' (first | refine vs_ ?_ | ((first | refine vr_ ?_ | refine qa (qmt _) fun _ => ?_ | refine qa (q56 _) fun _ => ?_ | (refine cs_ ?_ ?_ <;> intro hc) | refine cj_ ?_ | simp (disch := omega) only [qh, qs]) <;> (try refine ev_ ?_)) | with_reducible exact ti_)
   ·refine q8 (n + 1) [0] ⟨⟨by omega, qof ha (by assumption) (by assumption)⟩, by omega⟩ rfl (by simp) ?_ ?_ ?_ <;> (try refine ev_ ?_) <;> (try with_reducible exact ti_) <;> (try simp (disch := omega) only [qs, and_true, true_and])
   ·have hnn := qu1 ha (by assumption) (by assumption)
    rw [qrr (by assumption), ← hnn]; rfl
   ·have hnn := qr1 hn ha (by assumption)
    rw [qrr (by assumption), ← hnn]; rfl
 ·refine qbm (S := Nat) (fun n => n ≤ l.length ∧ qbg onW l = n + qbg onW (l.drop n)) (fun n => (⟨[(0, .str l), (2, .ptr 0 0), (3, .int .i64 0), (4, .int .i64 n)], []⟩, [.blk [.int .i64 0, .int .i64 0, .int .i64 0, .str []]])) (fun n => l.length - n) ?_ fun n hn => ?_
  ·refine q8 0 [0] ⟨Nat.zero_le _, by simp⟩ rfl (by simp) ?_ ?_ ?_ <;> (try refine ev_ ?_) <;> (try with_reducible exact ti_) <;> (try simp (disch := omega) only [qs, and_true, true_and])
  ·obtain ⟨hn, ha⟩ := hn
   repeat' (first | refine vs_ ?_ | ((first | refine vr_ ?_ | refine qa (q2t _) fun _ => ?_ | refine qa (ql9 _) fun _ => ?_ | refine qa (qjj _) fun _ => ?_ | (refine cs_ ?_ ?_ <;> intro hc) | refine cj_ ?_ | simp (disch := omega) only [qh, qs]) <;> (try refine ev_ ?_)) | with_reducible exact ti_)
   ·refine q8 (n + 1) [0] ⟨⟨by omega, qof ha (by assumption) (by assumption)⟩, by omega⟩ rfl (by simp) ?_ ?_ ?_ <;> (try refine ev_ ?_) <;> (try with_reducible exact ti_) <;> (try simp (disch := omega) only [qs, and_true, true_and])
   all_goals
    have hnn : n = qbg onW l := by first | exact qu1 ha (by assumption) (by assumption) | exact qr1 hn ha (by assumption)
    rw [qta hne (by assumption) (.inl (by assumption)) hnn]
    clear hnn ha hn
    first | (simp only [*, if_true, if_false, reduceIte, Bool.false_eq_true, encT]; done) | (simp_all; done)
 ·refine qbm (S := Nat) (fun n => n ≤ l.length ∧ qbg onW l = n + qbg onW (l.drop n)) (fun n => (⟨[(0, .str l), (2, .ptr 0 0), (3, .int .i64 0), (4, .int .i64 n)], []⟩, [.blk [.int .i64 0, .int .i64 0, .int .i64 0, .str []]])) (fun n => l.length - n) ?_ fun n hn => ?_
  ·refine q8 0 [0] ⟨Nat.zero_le _, by simp⟩ rfl (by simp) ?_ ?_ ?_ <;> (try refine ev_ ?_) <;> (try with_reducible exact ti_) <;> (try simp (disch := omega) only [qs, and_true, true_and])
  ·obtain ⟨hn, ha⟩ := hn
   repeat' (first | refine vs_ ?_ | ((first | refine vr_ ?_ | refine qa (q2t _) fun _ => ?_ | refine qa (ql9 _) fun _ => ?_ | refine qa (qjj _) fun _ => ?_ | (refine cs_ ?_ ?_ <;> intro hc) | refine cj_ ?_ | simp (disch := omega) only [qh, qs]) <;> (try refine ev_ ?_)) | with_reducible exact ti_)
   ·refine q8 (n + 1) [0] ⟨⟨by omega, qof ha (by assumption) (by assumption)⟩, by omega⟩ rfl (by simp) ?_ ?_ ?_ <;> (try refine ev_ ?_) <;> (try with_reducible exact ti_) <;> (try simp (disch := omega) only [qs, and_true, true_and])
   all_goals
    have hnn : n = qbg onW l := by first | exact qu1 ha (by assumption) (by assumption) | exact qr1 hn ha (by assumption)
    rw [qta hne (by assumption) (.inr (by assumption)) hnn]
    clear hnn ha hn
    first | (simp only [*, if_true, if_false, reduceIte, Bool.false_eq_true, encT]; done) | (simp_all; done)
 ·have hm : qkh l = 0 := by
   apply Decidable.byContradiction
   intro hm; exact q0j hne hm hc
  rw [q26 (by assumption) (by rw [qbaw (by assumption)]; simp only [*, Bool.or_false]) hm]; rfl
 ·have hm : qkh l ≠ 0 := by
   intro hm; rw [hm] at hc; exact hc rfl
  rw [qul (by assumption) (by rw [qbaw (by assumption)]; simp only [*, Bool.or_false]) hm]; rfl

theorem qlw {l : List T} (h : l ≠ []) : qcv l ≠ [] := by cases l with | nil => exact absurd rfl h | cons _ _ => simp [qcv]
theorem q33 (t : T) : [encT t] = qcv [t] := rfl
def q4w (s : List UInt8) (x : Nat × List T) : AF × List Ent :=
 (⟨[(0, .str s), (2, .nils), (3, .int .i64 0), (4, .int .i64 0), (5, accV 0 (qcv x.2)), (6, .int .i64 x.1)], []⟩, accE 4 (qcv x.2))
theorem qzy (s : List UInt8) : qz Tryz.prog 20 [.str s] (lexR (lexV s)) := by
 refine qj c0df (by simp) (by simp only [go_sem]) (by simp only [lexR, go_sem]) fun hw => ?_
 have hl : s.length ≤ maxLen := hw.1
 repeat' (first | refine vs_ ?_ | ((first | refine vr_ ?_ | refine qa (qoq _ 0 (Nat.zero_le _)) fun _ => ?_ | (refine cs_ ?_ ?_ <;> intro hc) | refine cj_ ?_ | simp (disch := omega) only [qh, qs]) <;> (try refine ev_ ?_)) | with_reducible exact ti_)
 ·rw [qpz hc]; rfl
 ·have hk0 := qwl s
  have hs : s.length ≤ 1048576 := by omega
  refine qbm (S := Nat × List T) (fun x => x.1 ≤ s.length ∧ lexG s (qc4 s) = appR x.2 (lexG s x.1) ∧ x.2.length ≤ x.1) (q4w s) (fun x => s.length - x.1) ?_ ?_
  ·refine q8 (qc4 s, []) [] ⟨hk0, (qqg _).symm, Nat.zero_le _⟩ rfl (by simp) ?_ ?_ ?_ <;> simp only [q4w, qcv, List.map_nil] <;> (try refine ev_ ?_) <;> (try with_reducible exact ti_) <;> (try simp (disch := omega) only [qs, and_true, true_and])
   all_goals simp only [Nat.zero_add]
  ·rintro ⟨k, acc⟩ ⟨hk, hG, hacc⟩
   simp only at hk hG hacc
   have hn := q1e hk
   have hk2 := q0c hk
   have w1 : IntKind.i64.wrap ((k : Int) + ((qc8 (List.drop k s)).1.text.length : Nat)) = (lexN s k : Nat) := by
    rw [qe9 (by unfold lexN at hn; omega) (by unfold lexN at hn; omega)]; rfl
   have hT : AV.agg [.int .i64 (qc8 (List.drop k s)).1.kind, .int .i64 k, .int .i64 (qc8 (List.drop k s)).1.num, .str (qc8 (List.drop k s)).1.text] = encT (lexT s k) := rfl
   by_cases hA : acc = []
   ·subst hA
    simp only [q4w, qcv, List.map_nil]
    repeat' (first | refine vs_ ?_ | ((first | refine vr_ ?_ | fail) <;> (try simp only [w1, go_sem, ↓reduceIte])) | ((first | (refine cs_ ?_ ?_ <;> intro hc) | refine cj_ ?_ | simp (disch := omega) only [qh, qs] | refine qa (qoq _ _ hn) fun _ => ?_ | refine qa (qtj _ (by simp; omega)) fun _ => ?_) <;> (try refine ev_ ?_)) | with_reducible exact ti_)
    ·rw [qna (by assumption) (by rw [hG, qzo (by omega) hc, appR, if_neg hc]; exact hc), hG, qzo (by omega) hc, appR, if_neg hc]; rfl
    ·have hlt := qon (s := s) (k := k) (by omega) hc
     refine q8 (lexK s k, [] ++ [lexT s k]) [1] ⟨⟨hk2, ?_, ?_⟩, by simp only; omega⟩ rfl (by simp) ?_ ?_ ?_
     ·simp only
      rw [hG, qbao (by omega) hc, qvc]
     ·simp only [List.length_append, List.length_cons, List.length_nil]; omega
     all_goals simp only [q4w, List.nil_append, hT, q33, qbd (qlw (l := [lexT s k]) (by simp)), qbc (qlw (l := [lexT s k]) (by simp)), lexK]
     all_goals (refine ev_ ?_; (try with_reducible exact ti_))
    ·rw [qrx (by assumption) (by rw [hG, qx6 (by omega)]; rfl), hG, qx6 (by omega)]; rfl
   ·simp only [q4w, qbd (qlw hA), qbc (qlw hA)]
    repeat' (first | refine vs_ ?_ | ((first | refine vr_ ?_ | fail) <;> (try simp only [w1, go_sem, ↓reduceIte])) | ((first | (refine cs_ ?_ ?_ <;> intro hc) | refine cj_ ?_ | simp (disch := omega) only [qh, qs] | refine qa (qoq _ _ hn) fun _ => ?_ | refine qa (qtj _ (by simp; omega)) fun _ => ?_) <;> (try refine ev_ ?_)) | with_reducible exact ti_)
    ·rw [qna (by assumption) (by rw [hG, qzo (by omega) hc, appR, if_neg hc]; exact hc), hG, qzo (by omega) hc, appR, if_neg hc]; rfl
    ·have hlt := qon (s := s) (k := k) (by omega) hc
     refine q8 (lexK s k, acc ++ [lexT s k]) [2] ⟨⟨hk2, ?_, ?_⟩, by simp only; omega⟩ rfl (by simp) ?_ ?_ ?_
     ·simp only
      rw [hG, qbao (by omega) hc, qvc]
     ·simp only [List.length_append, List.length_cons, List.length_nil]; omega
     all_goals simp only [q4w, hT, qga, qbd (qlw (l := acc ++ [lexT s k]) (by simp)), qbc (qlw (l := acc ++ [lexT s k]) (by simp)), lexK]
     all_goals (refine ev_ ?_; (try with_reducible exact ti_))
    ·rw [qrx (by assumption) (by rw [hG, qx6 (by omega)]; rfl), hG, qx6 (by omega)]
     have hen : qcv acc ++ [AV.agg [AV.int IntKind.i64 0, AV.int IntKind.i64 s.length, AV.int IntKind.i64 0, AV.str []]] = qcv (acc ++ [⟨0, s.length, 0, []⟩]) := qga acc ⟨0, s.length, 0, []⟩
     rw [hen]
     refine ⟨qio _ _, ?_⟩
     simp only [appR, if_true, List.append_nil]
     rfl
end Go.Proofs.YtfjbmjplnmaclaaGreat
