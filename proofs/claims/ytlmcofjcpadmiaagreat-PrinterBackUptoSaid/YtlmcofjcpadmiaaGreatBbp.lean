/- Texts of this proof, joined. -/
import Derived.Test.YtlmcofjcpadmiaaGreatBbh
import Derived.Test.YtlmcofjcpadmiaaGreatBbn
import Derived.Test.YtlmcofjcpadmiaaGreatBbc

/- declarations that are written are read as they were -/
namespace Go.Proofs.YtlmcofjcpadmiaaGreat
open Go Go.RowKit Go.V
set_option linter.unusedVariables false
set_option linter.unusedSimpArgs false


/-! whole texts -/
theorem qk9 : ∀ n, dp (qq n) = dp n ∧ sz (qq n) = sz n := N.ind fun n ih => by
 rw [qhn, qlv, qlv n, qes, qes n]
 show dps (qio n.kids) + 1 = _ ∧ szs (qio n.kids) + 1 = _
 rw [qfb]
 have : ∀ l : List N, (∀ x ∈ l, dp (qq x) = dp x ∧ sz (qq x) = sz x) → dps (l.map qq) = dps l ∧ szs (l.map qq) = szs l := fun l => by
  induction l with
  | nil => exact fun _ => ⟨rfl, rfl⟩
  | cons x l ihl =>
    intro h
    obtain ⟨h1, h2⟩ := h x (by simp)
    obtain ⟨h3, h4⟩ := ihl fun y hy => h y (by simp [hy])
    rw [List.map_cons, dps, dps, szs, szs, h1, h2, h3, h4]
    exact ⟨rfl, rfl⟩
 obtain ⟨h1, h2⟩ := this n.kids ih
 exact ⟨by rw [h1], by rw [h2]⟩
theorem qbzo {a b : N} (h : NS a b) : dp a = dp b ∧ sz a = sz b := by
 have h : qq a = qq b := h
 exact ⟨by rw [← (qk9 a).1, h, (qk9 b).1], by rw [← (qk9 a).2, h, (qk9 b).2]⟩
theorem quk {a b : N} (h : NS a b) : ql2 a b = true := by
 have h : qq a = qq b := h
 have key : ∀ a b : N, qq a = qq b → ql2 a b = true := N.ind fun a ih b h => by
  rw [qhn, qhn, qfb, qfb] at h
  obtain ⟨h1, _, h3, h4, h5⟩ := N.mk.inj h
  rw [qh0, decide_eq_true h1, decide_eq_true h4, decide_eq_true h3, Bool.true_and, Bool.true_and, Bool.true_and]
  have : ∀ l m : List N, (∀ x ∈ l, ∀ y, qq x = qq y → ql2 x y = true) → l.map qq = m.map qq → qdw l m = true := fun l => by
   induction l with
   | nil =>
     intro m _ e
     cases m with
     | nil => rfl
     | cons _ _ => cases e
   | cons x l ihl =>
     intro m hx e
     cases m with
     | nil => cases e
     | cons y m =>
       rw [List.map_cons, List.map_cons] at e
       obtain ⟨e1, e2⟩ := List.cons.inj e
       rw [qdw, hx x (by simp) y e1, ihl m (fun z hz => hx z (by simp [hz])) e2]; rfl
  exact this _ _ ih h5
 exact key a b h
theorem qbrh {c : K} (h : Ah c []) : (qiq c).2 = 0 := by
 have hr : remT c = [] := List.map_eq_nil_iff.1 h.2
 have : ¬ (c.at' : Int) < c.l.length := by
  have := congrArg List.length hr
  simp [remT] at this; omega
 rw [qrw h.1 this]
theorem quf {rd : K → K × Option N} {s : List UInt8} {ts : List T} {n : N} (hs : s.length ≤ 1000000) (hk : tokW s = some ts) (hz : sz n ≤ 1000000) (hd : dp n ≤ 100) (h : ∀ c : K, Ah c ts → c.nest = 0 → Got c (rd c) n []) : ∃ m, qk4 rd s = (m, 0, 0) ∧ NS m n ∧ (rd (newK (lexV s).1)).2.getD N0 = m := by
 obtain ⟨h1, h2⟩ := qbqn hs hk
 have hA : Ah (newK (lexV s).1) ts := ⟨rfl, h2⟩
 obtain ⟨x, g1, g2, g3, g4⟩ := h _ hA rfl
 obtain ⟨e1, e2⟩ := qbzo g2
 rw [qk4, if_pos h1, qtl, if_pos (qbrh g3), g1]
 dsimp only [Option.getD_some]
 have e3 := ql5 x (by omega)
 rw [if_neg (by omega)]
 exact ⟨x, rfl, g2, rfl⟩
set_option maxRecDepth 4000

def qu6 (c : K) : K × Option N := qbz (rest c + 2) c
theorem qx4 : ∀ (f : Nat) (c : K), Mon c (qbz f c).1 := qeg
theorem qzb (s : List UInt8) (hsz : sz ((qu6 (newK (lexV s).1)).2.getD N0) ≤ 1000000) : ql Tryz.prog 25 [.str s] (resV (qk4 qu6 s)) := by
 have g := qni (qfz s).1
 have g2 : (qbz (rest (newK (lexV s).1) + 2) (newK (lexV s).1)).1.good := (qx4 _ _).1 g
 unfold qu6 at hsz
 have hdp := qkc hsz
 refine qg c0eu (by simp) (by simp only [go_sem]) (by simp only [go_sem]) fun hw => ?_
 repeat' (first | refine vs_ ?_ | ((first | refine vr_ ?_ | refine qa (qga s) fun _ => ?_ | refine qp7 (qqf _ (qfz s).1) (qo _ _) (by simp only [go_sem]) ?_ | refine qjh 1 (qzp (rest (newK (lexV s).1) + 2) _ g (by omega)) (by rfl) (qo _ _) (qo _ _) (by rfl) (qq4 _ _) (by rfl) fun _ => ?_ | refine qjh 1 (qln _ g2.ok) (by rfl) (qo _ _) (qo _ _) (by rfl) (by rfl) (by rfl) fun _ => ?_ | refine qa (qin (qj5 _) (by rw [hdp])) fun _ => ?_ | refine qe (qga s) ?_ | refine qe (qin (qj5 _) (by rw [hdp])) ?_ | (refine cs_ ?_ ?_ <;> intro hc) | refine cj_ ?_ | fail) <;> (try refine ev_ ?_)) | with_reducible exact ti_)
 all_goals (try rw [qdg])
 all_goals unfold qk4 qu6 qtl
 all_goals (repeat' split)
 all_goals first | omega | rfl | (exfalso; omega) | simp_all [go_sem]
theorem qz3 {n : N} (hs : sz n ≤ 3000) (h : lowW n = true) : dp n ≤ 100 := by
 rw [qblz hs, decide_eq_true_eq, ql5 n (by omega)] at h
 omega
section
variable {n : N} (hs : sz n ≤ 3000)
include hs
theorem q26 (hd : dp n ≤ 100) (ht : tyW n = true) (hl : (ptT n).length ≤ 1000000) : ∃ m, qk4 (qnu false) (ptT n) = (m, 0, 0) ∧ ql2 m n = true := by
 obtain ⟨m, h1, h2, _⟩ := quf (rd := qnu false) (n := n) hl (wdT n ht).1.get (by omega) hd fun c h h0 => qm2 (rest c + 2) n c [] ht (by rwa [List.append_nil]) (fun t s e => by cases e) (fun t s e => by cases e) (by omega) (by omega)
 exact ⟨m, h1, quk h2⟩
theorem q6b (hw : (enc n).wf) (hd : dp n ≤ 100) (ht : paW n = true) (hl : (ptP n).length ≤ 1000000) : ∃ m, qk4 qu6 (ptP n) = (m, 0, 0) ∧ ql2 m n = true ∧ sz ((qu6 (newK (lexV (ptP n)).1)).2.getD N0) ≤ 1000000 := by
 obtain ⟨m, h1, h2, h3⟩ := quf (rd := qu6) (n := n) hl (wdP n ht hw).1.get (by omega) hd fun c h h0 => q3e (rest c + 2) n c [] ht hw (by rwa [List.append_nil]) (fun t s e => by cases e) (by omega) (by omega)
 exact ⟨m, h1, quk h2, by rw [h3, (qbzo h2).2]; omega⟩
theorem qbb7 (hw : (enc n).wf) (hd : dp n ≤ 100) (ht : exW n = true) (hl : (ptE n).length ≤ 1000000) : ∃ m, expV (ptE n) = (m, 0, 0) ∧ NS m n := by
 obtain ⟨m, h1, h2, h3⟩ := quf (rd := fun c => qet (rest c + 2) c) (n := n) hl ((wdE n hw).1 ht).1.get (by omega) hd fun c h h0 => qbb8 (rest c + 2) n c [] ht hw (by rwa [List.append_nil]) (fun t s e => by cases e) (by omega) (by omega)
 exact ⟨m, h1, h2⟩
end
theorem bigZ {B k l : Nat} (hB : B ≤ 1048576) (hk : k ≤ 7000) (h : l + 8 ≤ k * (B + 64)) : l + 4 ≤ Big := by
 have : k * (B + 64) ≤ 7000 * 1048640 := Nat.mul_le_mul hk (by omega)
 unfold Big; omega
theorem qu4 {b : Bool} {s : List UInt8} {k : Nat} (hk : 8 ≤ k) (h : b = true → s.length + 8 ≤ k) : (orE b s).length + 8 ≤ k := by
 unfold orE
 split
 ·exact h (by assumption)
 ·simpa using hk
theorem szD8 (n : N) (B : Nat) : 8 ≤ sz n * (B + 64) := by
 have : 1 * 64 ≤ sz n * (B + 64) := Nat.mul_le_mul (qbca n) (by omega)
 omega
section
variable {n : N} {B : Nat} (hb : TxB B n) (hB : B ≤ 1048576) (hs : sz n ≤ 7000)
include hb hB hs
theorem qb1o : ql Tryz.prog 9 [enc n] (.str (outT n)) :=
 qkl (by omega) (bigZ hB hs (qu4 (szD8 n B) fun h => lenT rfl n hb (by rw [Bool.and_eq_true] at h; exact h.2)))
theorem qb4m (hw : (enc n).wf) : ql Tryz.prog 13 [enc n] (.str (outP n)) :=
 qnw (by omega) (bigZ hB hs (qu4 (szD8 n B) fun h => lenP rfl n hb (by rw [Bool.and_eq_true] at h; exact h.2) hw))
theorem qb4g (hw : (enc n).wf) : ql Tryz.prog 15 [enc n] (.str (outE n)) :=
 qiv (by omega) (bigZ hB hs (qu4 (szD8 n B) fun h => (lenE rfl n hb hw).1 (by rw [Bool.and_eq_true] at h; exact h.2)))
end
set_option maxRecDepth 4000

def bk1 (n : N) (x : Unit) : AF × List Ent := (⟨[(1, .ptr 0 0), (2, .bool false)], []⟩, [.blk [.int .i64 n.kind, .int .i64 n.pos, .int .i64 n.num, .str n.text, .sl 5 (encs n.kids)]])
theorem qb26 (n : N) : AV.bds 0 [enc n] = true := by simp only [AV.bds, qjg]; rfl
set_option maxHeartbeats 4000000 in
theorem qm6 (n : N) (hx : fewW n = true → TxB 1048576 n) : ql Tryz.prog 4 [enc n] (.bool true) := by
 refine qg c0et (by simp) (qb26 n) rfl fun hw => ?_
 have hwf : (enc n).wf := hw.1
 cases hf : fewW n with
 | false =>
   have h0 := qbi6 hf
   repeat' (first | refine vs_ ?_ | ((first | refine vr_ ?_ | refine qa h0 fun _ => ?_ | refine qa qqw fun _ => ?_ | (refine cs_ ?_ ?_ <;> intro hc) | refine cj_ ?_ | fail) <;> (try refine ev_ ?_)) | with_reducible exact ti_)
 | true =>
 have h0 := q8y hf
 have hb := hx hf
 have hs := qb2s hf
 have hT := qb1o hb (Nat.le_refl _) (by omega)
 have hP := qb4m hb (Nat.le_refl _) (by omega) hwf
 have hE := qb4g hb (Nat.le_refl _) (by omega) hwf
 have kT := qon n
 have kP := qrj n
 have kE := qry n
 unfold k0et
 refine qoi (qoy ?_)
 (refine ev_ ?_; (try with_reducible exact ti_))
 refine qpn (S := Unit) (fun _ => True) (bk1 n) ?_ fun _ _ => ?_
 ·have h10 : decide ((1 : Int) = 0) = false := rfl
  repeat' (first | refine vs_ ?_ | ((first | refine vr_ ?_ | fail) <;> (try simp only [h10, decide_false, go_sem, ↓reduceIte])) | ((first | (refine cs_ ?_ ?_ <;> intro hc) | refine cj_ ?_ | fail | refine qa h0 fun _ => ?_) <;> (try refine ev_ ?_)) | with_reducible exact ti_)
  all_goals (refine qbj () [0] trivial rfl (by simp) ?_ ?_ ?_ <;> simp only [bk1] <;> (try refine ev_ ?_) <;> (try with_reducible exact ti_) <;> (try simp (disch := omega) only [qi, and_true, true_and]))
 unfold bk1
 refine qpn (S := Unit) (fun _ => True) (bk1 n) ?_ fun _ _ => ?_
 ·cases hc : lowW n && tyW n with
  | false =>
    rw [hc] at kT
    repeat' (first | refine vs_ ?_ | ((first | refine vr_ ?_ | refine qa hT fun _ => ?_ | refine qa kT fun _ => ?_ | (refine cs_ ?_ ?_ <;> intro hc) | refine cj_ ?_ | fail) <;> (try refine ev_ ?_)) | with_reducible exact ti_)
    all_goals (refine qbj () [0] trivial rfl (by simp) ?_ ?_ ?_ <;> simp only [bk1] <;> (try refine ev_ ?_) <;> (try with_reducible exact ti_) <;> (try simp (disch := omega) only [qi, and_true, true_and]))
  | true =>
    have ho : outT n = ptT n := by rw [outT, orE, if_pos hc]
    rw [hc] at kT
    rw [ho] at hT
    rw [Bool.and_eq_true] at hc
    by_cases hl : (ptT n).length ≤ 100000
    ·obtain ⟨m, e1, e2⟩ := q26 hs (qz3 hs hc.1) hc.2 (by omega)
     have hR := qvs (ptT n) (by omega)
     rw [e1] at hR
     have hR : ql Tryz.prog 22 [.str (ptT n)] (.tup [enc m, .int .i64 0, .int .i64 0]) := hR
     have hS := qkd m n
     rw [e2] at hS
     repeat' (first | refine vs_ ?_ | ((first | refine vr_ ?_ | refine qa hT fun _ => ?_ | refine qa kT fun _ => ?_ | refine qa hR fun _ => ?_ | refine qa hS fun _ => ?_ | (refine cs_ ?_ ?_ <;> intro hc) | refine cj_ ?_ | fail) <;> (try refine ev_ ?_)) | with_reducible exact ti_)
     all_goals try (exfalso; omega)
     all_goals (refine qbj () [0] trivial rfl (by simp) ?_ ?_ ?_ <;> simp only [bk1] <;> (try refine ev_ ?_) <;> (try with_reducible exact ti_) <;> (try simp (disch := omega) only [qi, and_true, true_and]))
    ·repeat' (first | refine vs_ ?_ | ((first | refine vr_ ?_ | refine qa hT fun _ => ?_ | refine qa kT fun _ => ?_ | (refine cs_ ?_ ?_ <;> intro hc) | refine cj_ ?_ | fail) <;> (try refine ev_ ?_)) | with_reducible exact ti_)
     all_goals try (exfalso; omega)
     all_goals (refine qbj () [0] trivial rfl (by simp) ?_ ?_ ?_ <;> simp only [bk1] <;> (try refine ev_ ?_) <;> (try with_reducible exact ti_) <;> (try simp (disch := omega) only [qi, and_true, true_and]))
 unfold bk1
 refine qpn (S := Unit) (fun _ => True) (bk1 n) ?_ fun _ _ => ?_
 ·cases hc : lowW n && paW n with
  | false =>
    rw [hc] at kP
    repeat' (first | refine vs_ ?_ | ((first | refine vr_ ?_ | refine qa hP fun _ => ?_ | refine qa kP fun _ => ?_ | (refine cs_ ?_ ?_ <;> intro hc) | refine cj_ ?_ | fail) <;> (try refine ev_ ?_)) | with_reducible exact ti_)
    all_goals (refine qbj () [0] trivial rfl (by simp) ?_ ?_ ?_ <;> simp only [bk1] <;> (try refine ev_ ?_) <;> (try with_reducible exact ti_) <;> (try simp (disch := omega) only [qi, and_true, true_and]))
  | true =>
    have ho : outP n = ptP n := by rw [outP, orE, if_pos hc]
    rw [hc] at kP
    rw [ho] at hP
    rw [Bool.and_eq_true] at hc
    by_cases hl : (ptP n).length ≤ 100000
    ·obtain ⟨m, e1, e2, e3⟩ := q6b hs hwf (qz3 hs hc.1) hc.2 (by omega)
     have hR := qzb (ptP n) e3
     rw [e1] at hR
     have hR : ql Tryz.prog 25 [.str (ptP n)] (.tup [enc m, .int .i64 0, .int .i64 0]) := hR
     have hS := qkd m n
     rw [e2] at hS
     repeat' (first | refine vs_ ?_ | ((first | refine vr_ ?_ | refine qa hP fun _ => ?_ | refine qa kP fun _ => ?_ | refine qa hR fun _ => ?_ | refine qa hS fun _ => ?_ | (refine cs_ ?_ ?_ <;> intro hc) | refine cj_ ?_ | fail) <;> (try refine ev_ ?_)) | with_reducible exact ti_)
     all_goals try (exfalso; omega)
     all_goals (refine qbj () [0] trivial rfl (by simp) ?_ ?_ ?_ <;> simp only [bk1] <;> (try refine ev_ ?_) <;> (try with_reducible exact ti_) <;> (try simp (disch := omega) only [qi, and_true, true_and]))
    ·repeat' (first | refine vs_ ?_ | ((first | refine vr_ ?_ | refine qa hP fun _ => ?_ | refine qa kP fun _ => ?_ | (refine cs_ ?_ ?_ <;> intro hc) | refine cj_ ?_ | fail) <;> (try refine ev_ ?_)) | with_reducible exact ti_)
     all_goals try (exfalso; omega)
     all_goals (refine qbj () [0] trivial rfl (by simp) ?_ ?_ ?_ <;> simp only [bk1] <;> (try refine ev_ ?_) <;> (try with_reducible exact ti_) <;> (try simp (disch := omega) only [qi, and_true, true_and]))
 unfold bk1
 cases hc : lowW n && exW n with
 | false =>
   rw [hc] at kE
   repeat' (first | refine vs_ ?_ | ((first | refine vr_ ?_ | refine qa hE fun _ => ?_ | refine qa kE fun _ => ?_ | refine qa qqw fun _ => ?_ | (refine cs_ ?_ ?_ <;> intro hc) | refine cj_ ?_ | fail) <;> (try refine ev_ ?_)) | with_reducible exact ti_)
 | true =>
   have ho : outE n = ptE n := by rw [outE, orE, if_pos hc]
   rw [hc] at kE
   rw [ho] at hE
   rw [Bool.and_eq_true] at hc
   by_cases hl : (ptE n).length ≤ 100000
   ·obtain ⟨m, e1, e2⟩ := qbb7 hs hwf (qz3 hs hc.1) hc.2 (by omega)
    have hR := q0x (ptE n) (by omega)
    rw [e1] at hR
    have hR : ql Tryz.prog 27 [.str (ptE n)] (.tup [enc m, .int .i64 0, .int .i64 0]) := hR
    have hS := qkd m n
    rw [quk e2] at hS
    repeat' (first | refine vs_ ?_ | ((first | refine vr_ ?_ | refine qa hE fun _ => ?_ | refine qa kE fun _ => ?_ | refine qa hR fun _ => ?_ | refine qa hS fun _ => ?_ | refine qa qqw fun _ => ?_ | (refine cs_ ?_ ?_ <;> intro hc) | refine cj_ ?_ | fail) <;> (try refine ev_ ?_)) | with_reducible exact ti_)
    all_goals try (exfalso; omega)
   ·repeat' (first | refine vs_ ?_ | ((first | refine vr_ ?_ | refine qa hE fun _ => ?_ | refine qa kE fun _ => ?_ | refine qa qqw fun _ => ?_ | (refine cs_ ?_ ?_ <;> intro hc) | refine cj_ ?_ | fail) <;> (try refine ev_ ?_)) | with_reducible exact ti_)
    all_goals try (exfalso; omega)
end Go.Proofs.YtlmcofjcpadmiaaGreat
