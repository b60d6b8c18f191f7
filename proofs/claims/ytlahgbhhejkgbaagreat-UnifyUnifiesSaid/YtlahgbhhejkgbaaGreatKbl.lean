/- Texts of this proof, joined. -/
import Derived.Test.YtlahgbhhejkgbaaGreatKbh
import Derived.Test.YtlahgbhhejkgbaaGreatKbk

/- made one: Unify, All, With, Apart -/
set_option maxRecDepth 4000
namespace Go.Proofs.YtlahgbhhejkgbaaGreat
open Go Go.RowKit Go.V
set_option linter.unusedVariables false
set_option linter.unusedSimpArgs false

mutual
theorem qmz : ∀ t, (varY t).length ≤ szY t
 | .mk c v l => by
   have := qit l
   rw [qeu, qwh, List.length_append]
   split <;> simp <;> omega
theorem qit : ∀ l, (qby l).length ≤ szYs l
 | [] => by rw [qby, szYs]; exact Nat.le_refl _
 | x :: r => by
   have := qmz x
   have := qit r
   rw [qby, szYs, List.length_append]; omega
end
theorem qnj {a b : Ty} (ha : qd a = true) (hb : qd b = true) : Inv (varY a ++ varY b) [] [(a, b)] := by
 refine ⟨qdf, fun p hp => by simp at hp, fun p hp => by simp at hp, fun p hp => by simp at hp, fun x hx => ?_, fun x hx w hw => ?_⟩
 ·simp at hx; subst hx; exact ⟨ha, hb⟩
 ·simp at hx; subst hx; simpa using hw
theorem qrk {a b : Ty} (ha : qd a = true) (hb : qd b = true) : (varY a ++ varY b).length ≤ 10000 := by
 have h1 := ((qp _).1 ha).1
 have h2 := ((qp _).1 hb).1
 have h3 := qmz a
 have h4 := qmz b
 rw [List.length_append]; omega
def UniQ (a b : Ty) (q : List Pr × Int) : Prop := if qd a = true ∧ qd b = true then ∃ n, slvU n [] [(a, b)] = some q else q = ([], 1)
theorem qbtd (a b : Ty) : ∃ q, UniQ a b q := by
 by_cases h : qd a = true ∧ qd b = true
 ·obtain ⟨n, q, hq⟩ := qv0 _ _ [] [(a, b)] (qnj h.1 h.2) (Nat.le_refl _) (Nat.le_refl _)
  exact ⟨q, by rw [UniQ, if_pos h]; exact ⟨n, hq⟩⟩
 ·exact ⟨([], 1), by rw [UniQ, if_neg h]⟩
theorem qs3 {a b : Ty} {q : List Pr × Int} (h : UniQ a b q) : okS q.1 ∧ q.1.length ≤ 10000 ∧ (q.2 ≠ 0 → q.1 = []) := by
 rw [UniQ] at h
 split at h
 ·rename_i hl
  obtain ⟨n, hq⟩ := h
  by_cases he : q.2 = 0
  ·obtain ⟨h1, _⟩ := qhw n [] _ q (qnj hl.1 hl.2) hq he
   exact ⟨h1.ok, Nat.le_trans h1.len (qrk hl.1 hl.2), fun h => absurd he h⟩
  ·have h0 : q.1 = [] := by
    obtain ⟨m, r, _, h1, h2, _⟩ := qia n [] [(a, b)] [] q (by simpa using hq)
    by_cases hr : r.2 = 0
    ·exfalso
     rename_i h3
     obtain ⟨k, _, h4⟩ := h3 hr
     rw [qei] at h4
     simp only [Option.some.injEq] at h4
     subst h4
     exact he rfl
    ·obtain ⟨h3, h4⟩ := h2 hr
     rw [h3, h4]
   exact ⟨by rw [h0]; exact qdf, by rw [h0]; simp, fun _ => h0⟩
 ·subst h
  exact ⟨qdf, by simp, fun _ => rfl⟩
theorem qe2 (a b : Ty) : [encY a, encY b] = qt [a, b] := by rw [qt, qt, qt]
theorem qct {a b : Ty} (h1 : szY a ≤ 20000) (h2 : dpY a ≤ 300) (h3 : szY b ≤ 20000) (h4 : dpY b ≤ 300) {q : List Pr × Int} (h : UniQ a b q) : VCalls Tryz.prog 9 [] [encY a, encY b] (newQ [] q) := by
 have hL := qeg (l := [a, b]) (fun x hx => by simp at hx; rcases hx with rfl | rfl <;> exact ⟨by assumption, by assumption⟩)
 rw [← qe2] at hL
 by_cases hl : qd a = true ∧ qd b = true
 ·rw [UniQ, if_pos hl] at h
  obtain ⟨n, hq⟩ := h
  rw [show [a, b].all qd = true by simp [hl]] at hL
  have hS := qjd (qrk hl.1 hl.2) (l := [(a, b)]) (by simp) (qnj hl.1 hl.2) hq
  have hS : VCalls Tryz.prog 28 [] [.sl 6 [encW (a, b)]] (newQ [] q) := hS
  have hbw : AV.bds 0 [.sl 6 [encW (a, b)]] = true := by simp only [AV.bds, AV.bd, qez, Bool.and_true]
  obtain ⟨r, e⟩ := q
  by_cases he : e = 0
  ·subst he
   refine qf c0i 1 (by simp) (by simp) ?_
   repeat' (first | refine vs_ ?_ | ((first | refine vr_ ?_ | refine qa hL fun _ => ?_ | (refine cs_ ?_ ?_ <;> intro hc) | refine cj_ ?_ | fail) <;> (try refine ev_ ?_)) | with_reducible exact ti_)
   refine qkt hS hbw rfl ?_
   (refine ev_ ?_; (try with_reducible exact ti_))
   refine qod (af' := ⟨[(4, .ptr 0 0), (5, .int .i64 0)], []⟩) (H' := [subE r]) ?_ (qqk [2] rfl (by simp) ?_ ?_ ?_)
   ·repeat' (first | refine vs_ ?_ | ((first | refine vr_ ?_ | (refine cs_ ?_ ?_ <;> intro hc) | refine cj_ ?_ | fail) <;> (try refine ev_ ?_)) | with_reducible exact ti_)
    rw [newQ, if_pos rfl]; exact ⟨rfl, rfl⟩
   all_goals (try (refine ev_ ?_; (try with_reducible exact ti_)))
  ·refine qf c0i 0 (by simp) (by simp) ?_
   repeat' (first | refine vs_ ?_ | ((first | refine vr_ ?_ | refine qa hL fun _ => ?_ | refine qh9 hS hbw rfl he ?_ | (refine cs_ ?_ ?_ <;> intro hc) | refine cj_ ?_ | fail) <;> (try refine ev_ ?_)) | with_reducible exact ti_)
   rw [newQ, if_neg he]; exact ⟨rfl, rfl⟩
 ·rw [UniQ, if_neg hl] at h
  subst h
  rw [show [a, b].all qd = false by
   cases ha : qd a <;> cases hb : qd b <;> simp_all] at hL
  refine qf c0i 0 (by simp) (by simp) ?_
  repeat' (first | refine vs_ ?_ | ((first | refine vr_ ?_ | refine qa hL fun _ => ?_ | (refine cs_ ?_ ?_ <;> intro hc) | refine cj_ ?_ | fail) <;> (try refine ev_ ?_)) | with_reducible exact ti_)
  rw [newQ, if_neg (by decide)]; exact ⟨rfl, rfl⟩
end Go.Proofs.YtlahgbhhejkgbaaGreat

/- made one: rows, behind a substitution, qk0 -/
set_option maxRecDepth 4000
namespace Go.V
open Go Go.RowKit
theorem VCalls.drop {P : Program} {f : FuncId} {args : List AV} {Q Q' : List Ent → VO → Prop} (h : VCalls P f [] args Q) (hq : ∀ H' o, Q H' o → ∃ r, Q' [] (.val r) ∧ ∃ r0, o = .val r0 ∧ ∀ w M G x, VR w M G r0 x → VR w M [] r x) : VCalls P f [] args Q' :=
 ⟨h.1, fun w M G vs hst hv => CallsIn.mono (h.2 w M G vs hst hv) fun e w' he => by
  have hG : G = [] := List.eq_nil_of_length_eq_zero hst.len
  subst hG
  cases e with
  | returned x =>
    obtain ⟨M', G', H', v, h1, h2, h3, h4⟩ := he
    obtain ⟨r, q1, r0, q2, q3⟩ := hq _ _ h1
    cases q2
    exact ⟨M', [], [], r, q1, ⟨h2.os, h2.tape, h2.output, h2.size, fun i g hg => by simp at hg, h2.le, h2.out, fun b ⟨i, g, hg, _⟩ => by simp at hg, h2.Mnew⟩, ⟨rfl, fun i g e hg => by simp at hg, fun i j g g' b hg => by simp at hg, fun i g b hg => by simp at hg, h3.Mlt, h3.one⟩, q3 _ _ _ _ h4⟩
  | panicked c =>
    obtain ⟨M', G', H', v, x, h1, h2, h3, h4, h5⟩ := he
    obtain ⟨r, q1, r0, q2, q3⟩ := hq _ _ h1
    cases q2
  | outgrown => exact he⟩
end Go.V
namespace Go.Proofs.YtlahgbhhejkgbaaGreat
open Go Go.RowKit Go.V
set_option linter.unusedVariables false
set_option linter.unusedSimpArgs false

theorem q3o {f : FuncId} {args : List AV} {q : List Pr × Int} (h : VCalls Tryz.prog f [] args (newQ [] q)) (ha : AV.bds 0 args = true) : qj Tryz.prog f args (.tup [.junk, .int .i64 q.2]) := by
 refine ⟨h.drop fun H' o hq => ?_, ha, rfl⟩
 refine ⟨_, ⟨rfl, rfl⟩, ?_⟩
 rw [newQ] at hq
 split at hq
 ·rename_i he
  refine ⟨_, hq.2, fun w M G x hx => ?_⟩
  obtain ⟨vs, rfl, v, r, rfl, _, v2, r2, rfl, h2, rfl⟩ := hx
  rw [he]
  exact ⟨_, rfl, v, _, rfl, trivial, v2, _, rfl, h2, rfl⟩
 ·refine ⟨_, hq.2, fun w M G x hx => ?_⟩
  obtain ⟨vs, rfl, v, r, rfl, _, v2, r2, rfl, h2, rfl⟩ := hx
  exact ⟨_, rfl, v, _, rfl, trivial, v2, _, rfl, h2, rfl⟩
def AllQ (l m : List Ty) (q : List Pr × Int) : Prop :=
 if l.all qd = true ∧ m.all qd = true then (if l.length = m.length then ∃ n, slvU n [] (l.zip m) = some q else q = ([], 14)) else q = ([], 1)
theorem qbme {l m : List Ty} (hl : l.all qd = true) (hm : m.all qd = true) : Inv (qby l ++ qby m) [] (l.zip m) := by
 refine ⟨qdf, fun p hp => by simp at hp, fun p hp => by simp at hp, fun p hp => by simp at hp, fun x hx => ?_, fun x hx w hw => ?_⟩
 ·obtain ⟨h1, h2⟩ := qm5 hx
  exact ⟨List.all_eq_true.1 hl _ h1, List.all_eq_true.1 hm _ h2⟩
 ·obtain ⟨h1, h2⟩ := qm5 hx
  rcases hw with hw | hw
  ·exact List.mem_append.2 (.inl (qfj h1 hw))
  ·exact List.mem_append.2 (.inr (qfj h2 hw))
theorem qw0 {l m : List Ty} (h1 : ∀ x ∈ l, szY x ≤ 20000 ∧ dpY x ≤ 300) (h2 : ∀ x ∈ m, szY x ≤ 20000 ∧ dpY x ≤ 300) (hs : szYs l + szYs m ≤ 10000) {q : List Pr × Int} (h : AllQ l m q) : VCalls Tryz.prog 13 [] [.sl 3 (qt l), .sl 3 (qt m)] (newQ [] q) := by
 have L1 := qeg h1
 have L2 := qeg h2
 have hbl : l.length ≤ 10000 := by have := qd7 l; omega
 by_cases hl : l.all qd = true
 case neg =>
  rw [AllQ, if_neg (fun h => hl h.1)] at h
  subst h
  rw [Bool.not_eq_true] at hl
  rw [hl] at L1
  refine qf c0g 0 (by simp) (by simp) ?_
  repeat' (first | refine vs_ ?_ | ((first | refine vr_ ?_ | refine qa L1 fun _ => ?_ | (refine cs_ ?_ ?_ <;> intro hc) | refine cj_ ?_ | fail) <;> (try refine ev_ ?_)) | with_reducible exact ti_)
  rw [newQ, if_neg (by decide)]; exact ⟨rfl, rfl⟩
 rw [hl] at L1
 by_cases hm : m.all qd = true
 case neg =>
  rw [AllQ, if_neg (fun h => hm h.2)] at h
  subst h
  rw [Bool.not_eq_true] at hm
  rw [hm] at L2
  refine qf c0g 0 (by simp) (by simp) ?_
  repeat' (first | refine vs_ ?_ | ((first | refine vr_ ?_ | refine qa L1 fun _ => ?_ | refine qa L2 fun _ => ?_ | (refine cs_ ?_ ?_ <;> intro hc) | refine cj_ ?_ | fail) <;> (try refine ev_ ?_)) | with_reducible exact ti_)
  rw [newQ, if_neg (by decide)]; exact ⟨rfl, rfl⟩
 rw [hm] at L2
 rw [AllQ, if_pos ⟨hl, hm⟩] at h
 by_cases hlen : l.length = m.length
 case neg =>
  rw [if_neg hlen] at h
  subst h
  refine qf c0g 0 (by simp) (by simp) ?_
  repeat' (first | refine vs_ ?_ | ((first | refine vr_ ?_ | refine qa L1 fun _ => ?_ | refine qa L2 fun _ => ?_ | (refine cs_ ?_ ?_ <;> intro hc) | refine cj_ ?_ | fail) <;> (try refine ev_ ?_)) | with_reducible exact ti_)
  all_goals try (exfalso; omega)
  rw [newQ, if_neg (by decide)]; exact ⟨rfl, rfl⟩
 rw [if_pos hlen] at h
 obtain ⟨n, hq⟩ := h
 have fp := qjh hlen (by omega)
 have hS := qjd (V := qby l ++ qby m) (by have := qit l; have := qit m; rw [List.length_append]; omega) (l := l.zip m) (by rw [List.length_zip]; omega) (qbme hl hm) hq
 have hbw : AV.bds 0 [.sl 6 (qbj (l.zip m))] = true := by simp only [AV.bds, AV.bd, qca, Bool.and_true]
 obtain ⟨r, e⟩ := q
 by_cases he : e = 0
 ·subst he
  refine qf c0g 1 (by simp) (by simp) ?_
  repeat' (first | refine vs_ ?_ | ((first | refine vr_ ?_ | refine qa L1 fun _ => ?_ | refine qa L2 fun _ => ?_ | refine qa fp fun _ => ?_ | refine qkt hS hbw rfl ?_ | (refine cs_ ?_ ?_ <;> intro hc) | refine cj_ ?_ | fail) <;> (try refine ev_ ?_)) | with_reducible exact ti_)
  all_goals try (exfalso; omega)
  rw [newQ, if_pos rfl]; exact ⟨rfl, rfl⟩
 ·refine qf c0g 0 (by simp) (by simp) ?_
  repeat' (first | refine vs_ ?_ | ((first | refine vr_ ?_ | refine qa L1 fun _ => ?_ | refine qa L2 fun _ => ?_ | refine qa fp fun _ => ?_ | refine qh9 hS hbw rfl he ?_ | (refine cs_ ?_ ?_ <;> intro hc) | refine cj_ ?_ | fail) <;> (try refine ev_ ?_)) | with_reducible exact ti_)
  all_goals try (exfalso; omega)
  rw [newQ, if_neg he]; exact ⟨rfl, rfl⟩
theorem qur {s u r : List Pr} {a b A B : Ty} (hs : okS s) (hl : s.length ≤ 40000) (ha : qd a = true) (hb : qd b = true) (hA : appR s a = (A, 0)) (hB : appR s b = (B, 0)) (hu : UniQ A B (u, 0)) (hr : behR s u = (r, 0)) :
 VCalls Tryz.prog 26 [subE s] [.ptr 0 0, encY a, encY b] fun H' o => H' = [subE s, subE r] ∧ o = .val (.tup [.ptr 1 0, .int .i64 0]) := by
 have f1 := vm_A hs hl ha hA
 have f2 := vm_A hs hl hb hB
 have hAl : qd A = true := by
  have := qbl hs (t := a) (by rw [hA])
  rw [hA] at this
  have h3 : A = putY s a := this.2.2
  rw [h3]; exact this.2.1
 have hBl : qd B = true := by
  have := qbl hs (t := b) (by rw [hB])
  rw [hB] at this
  have h3 : B = putY s b := this.2.2
  rw [h3]; exact this.2.1
 have z1 := (qp _).1 hAl
 have z2 := (qp _).1 hBl
 have hU := qct (by omega) (by omega) (by omega) (by omega) hu
 obtain ⟨o1, o2, _⟩ := qs3 hu
 dsimp only at o1 o2
 have hbU : AV.bds 0 [encY A, encY B] = true := by simp only [AV.bds, qz, Bool.and_true]
 refine qf c0h 2 (by simp) (by simp) ?_
 repeat' (first | refine vs_ ?_ | ((first | refine vr_ ?_ | refine qx 0 f1 (bY _) (bYi _ _) ?_ | refine qx 0 f2 (bY _) (bYi _ _) ?_ | refine qkt hU hbU rfl ?_ | (refine cs_ ?_ ?_ <;> intro hc) | refine cj_ ?_ | fail) <;> (try refine ev_ ?_)) | with_reducible exact ti_)
 refine qv1 0 5 hs o1 hl (by omega) (by decide) hr ?_
 (refine ev_ ?_; (try with_reducible exact ti_))
 refine qod (af' := ⟨[(6, .ptr 1 0), (7, .int .i64 0)], []⟩) (H' := [subE s, subE r]) ?_ (qqk [0, 6] rfl (by simp) ?_ ?_ ?_)
 ·repeat' (first | refine vs_ ?_ | ((first | refine vr_ ?_ | (refine cs_ ?_ ?_ <;> intro hc) | refine cj_ ?_ | fail) <;> (try refine ev_ ?_)) | with_reducible exact ti_)
 all_goals (try (refine ev_ ?_; (try with_reducible exact ti_)))
/-! renamed -/
def rnS : List Int → Int → List Pr → List Pr
 | [], _, s => s
 | v :: r, k, s => rnS r (k + 2) (setR s v (.mk [] k [])).1
theorem qrz : ∀ (l : List Int) (v k : Int) (s : List Pr), rnS (l ++ [v]) k s = (setR (rnS l k s) v (.mk [] (k + 2 * l.length) [])).1
 | [], v, k, s => by simp [rnS]
 | x :: l, v, k, s => by
   rw [List.cons_append, rnS, rnS, qrz l v (k + 2), List.length_cons]
   congr 3
   push_cast; omega
theorem qwc : ∀ (l : List Int) (k : Int) {s : List Pr}, okS s → okS (rnS l k s) ∧ (rnS l k s).length ≤ s.length + l.length
 | [], k, s, h => ⟨h, by simp [rnS]⟩
 | v :: r, k, s, h => by
   have h1 := qwc r (k + 2) (qmp h v (.mk [] k []))
   have h2 := qmv s v (.mk [] k [])
   rw [rnS, List.length_cons]
   exact ⟨h1.1, by omega⟩
def rnU (t : Ty) (k : Int) : Ty := (appR (rnS (qeb [] (varY t)) k []) t).1
end Go.Proofs.YtlahgbhhejkgbaaGreat

/- made one: renamed, qk0 -/
set_option maxRecDepth 4000
namespace Go.Proofs.YtlahgbhhejkgbaaGreat
open Go Go.RowKit Go.V
set_option linter.unusedVariables false
set_option linter.unusedSimpArgs false

theorem q4y (t : Ty) (ht : szY t ≤ 20000) : (qeb [] (varY t)).length ≤ 20000 := by
 have h1 : ∀ (l acc : List Int), (qeb acc l).length ≤ acc.length + l.length := fun l => by
  induction l with
  | nil => intro acc; simp [qeb]
  | cons x r ih =>
    intro acc
    rw [qeb]
    split
    ·have := ih acc; rw [List.length_cons]; omega
    ·have := ih (acc ++ [x]); rw [List.length_append] at this; simp only [List.length_cons, List.length_nil] at this ⊢; omega
 have := h1 (varY t) []
 have := qmz t
 simp only [List.length_nil] at *
 omega
theorem qvw {l : List Int} {i : Nat} (h : i < l.length) : l.take (i + 1) = l.take i ++ [l.getD i 0] := by
 rw [List.take_add_one, List.getD_eq_getElem?_getD, List.getElem?_eq_getElem h]; rfl
theorem q3y {l : List Int} {i : Nat} (h : i < l.length) (k : Int) : rnS (l.take (i + 1)) k [] = (setR (rnS (l.take i) k []) (l.getD i 0) (.mk [] (k + 2 * i) [])).1 := by
 rw [qvw h, qrz, List.length_take, Nat.min_eq_left (Nat.le_of_lt h)]
theorem qbh6 (v : Int) : szY (.mk [] v []) ≤ 20000 ∧ dpY (.mk [] v []) ≤ 300 := ⟨by simp [szY, szYs], by simp [dpY, dpYs]⟩
set_option maxHeartbeats 1000000 in
theorem qgl {t : Ty} (h1 : szY t ≤ 20000) (h2 : dpY t ≤ 300) {k : Int} (hk0 : 0 ≤ k) (hk1 : k ≤ 1) : qj Tryz.prog 34 [encY t, .int .i64 k] (encY (rnU t k)) := by
 refine qg c0e (by simp) (by simp only [go_sem]) (qz 0 _) fun hw => ?_
 have hV := qux t (by omega)
 have hvl := q4y t h1
 rw [rnU]
 generalize qeb [] (varY t) = vs at hV hvl ⊢
 unfold k0e
 refine qcg (qek ?_)
 (refine ev_ ?_; (try with_reducible exact ti_))
 refine qes (S := Unit) (fun _ => True) (fun _ => (⟨[(1, .int .i64 k), (2, .ptr 0 0), (4, .ptr 1 0), (5, .ptr 2 0)], []⟩, [.blk (yc t), .blk [.str [], .int .i64 0, .nils], subE []])) ?_ fun _ _ => ?_
 ·repeat' (first | refine vs_ ?_ | ((first | refine vr_ ?_ | refine qgw qix rfl rfl ?_ | (refine cs_ ?_ ?_ <;> intro hc) | refine cj_ ?_ | simp (disch := omega) only [encs_getN, qb]) <;> (try refine ev_ ?_)) | with_reducible exact ti_)
  refine qi () [0, 1, 2] trivial rfl (by simp) ?_ ?_ ?_ <;> (try refine ev_ ?_) <;> (try with_reducible exact ti_) <;> (try simp (disch := omega) only [qb, and_true, true_and])
 repeat' (first | refine vs_ ?_ | ((first | refine vr_ ?_ | refine qa hV fun _ => ?_ | (refine cs_ ?_ ?_ <;> intro hc) | refine cj_ ?_ | simp (disch := omega) only [encs_getN, qb]) <;> (try refine ev_ ?_)) | with_reducible exact ti_)
 refine qq (S := Nat) (fun i => i ≤ vs.length) (fun i => (⟨[(1, .int .i64 k), (2, .ptr 0 0), (4, .ptr 1 0), (5, .ptr 2 0), (12, .sl 1 (ints vs)), (13, .int .i64 vs.length), (14, .int .i64 i)], []⟩, [.blk (yc t), .blk [.str [], .int .i64 0, .nils], subE (rnS (vs.take i) k [])])) (fun i => vs.length - i) ?_ fun i hi => ?_
 ·refine qi 0 [0, 1, 2] (Nat.zero_le _) rfl (by simp) ?_ ?_ ?_ <;> (try refine ev_ ?_) <;> (try with_reducible exact ti_) <;> (try simp (disch := omega) only [qb, and_true, true_and])
  all_goals rfl
 ·obtain ⟨ho, hlen⟩ := qwc (vs.take i) k qdf
  rw [List.length_take, Nat.min_eq_left hi, List.length_nil, Nat.zero_add] at hlen
  by_cases hlt : i < vs.length
  ·have hg := qky hlt
   obtain ⟨q1, q2⟩ := qbh6 (k + 2 * i)
   have hS := qf7 ho.1 (by omega) (vs.getD i 0) q1 q2
   rw [← q3y hlt] at hS
   have hS : VM Tryz.prog 36 (subE (rnS (vs.take i) k [])) (subE (rnS (vs.take (i + 1)) k [])) [.ptr 0 0, .int .i64 (vs.getD i 0), .agg [.str [], .int .i64 (k + 2 * i), .sl 3 []]] (.int .i64 (setR (rnS (vs.take i) k []) (vs.getD i 0) (.mk [] (k + 2 * i) [])).2) := by
    have e : encY (.mk [] (k + 2 * i) []) = .agg [.str [], .int .i64 (k + 2 * i), .sl 3 []] := by simp only [encY, qt]
    rwa [e] at hS
   have hw2 : IntKind.i64.wrap (2 * (i : Int)) = 2 * i := qw (by omega) (by omega)
   have hw3 : IntKind.i64.wrap (k + 2 * (i : Int)) = k + 2 * i := qw (by omega) (by omega)
   repeat' (first | refine vs_ ?_ | ((first | refine vr_ ?_ | fail) <;> (try simp (disch := first | omega | (simp only [List.length_set, List.length_append, List.length_cons, List.length_nil]; done) | (simp only [List.length_set, List.length_append, List.length_cons, List.length_nil]; omega)) only [hg, hw2, hw3, qb, go_sem, ↓reduceIte])) | ((first | simp (disch := omega) only [hg] | simp (disch := omega) only [hw2] | simp (disch := omega) only [hw3] | (refine cs_ ?_ ?_ <;> intro hc) | refine cj_ ?_ | simp (disch := omega) only [encs_getN, qb] | refine qx 2 hS rfl rfl ?_) <;> (try refine ev_ ?_)) | with_reducible exact ti_)
   all_goals try (exfalso; omega)
   refine qi (i + 1) [0, 1, 2] ⟨by omega, by omega⟩ rfl (by simp) ?_ ?_ ?_ <;> (try refine ev_ ?_) <;> (try with_reducible exact ti_) <;> (try simp (disch := omega) only [qb, and_true, true_and])
   rw [qw (by omega) (by omega), Int.natCast_add]; rfl
  ·have hie : i = vs.length := by omega
   subst hie
   rw [List.take_length] at ho hlen ⊢
   have hA := qsy ho (by omega) h1 h2
   have hT : typA (appR (rnS vs k []) t) = .tup [encY (appR (rnS vs k []) t).1, .int .i64 (appR (rnS vs k []) t).2] := rfl
   rw [hT] at hA
   repeat' (first | refine vs_ ?_ | ((first | refine vr_ ?_ | refine qx 2 hA (bY _) (bYi _ _) ?_ | (refine cs_ ?_ ?_ <;> intro hc) | refine cj_ ?_ | simp (disch := omega) only [encs_getN, qb]) <;> (try refine ev_ ?_)) | with_reducible exact ti_)
   all_goals try (exfalso; omega)
theorem qyn (t : Ty) (k : Int) : szY (rnU t k) ≤ 20000 ∧ dpY (rnU t k) ≤ 300 := by
 have ho := (qwc (qeb [] (varY t)) k qdf).1
 rw [rnU]
 by_cases he : (appR (rnS (qeb [] (varY t)) k []) t).2 = 0
 ·exact q29 ho he
 ·rw [q2b ho he]; exact ⟨by decide, by decide⟩
def AprQ (a b : Ty) (c : Bool) : Prop := if qd a = true ∧ qd b = true then ∃ q, UniQ (rnU a 0) (rnU b 1) q ∧ c = (decide (q.2 = 14) || decide (q.2 = 15)) else c = false
set_option maxHeartbeats 1000000 in
theorem qjc {a b : Ty} (h1 : szY a ≤ 20000) (h2 : dpY a ≤ 300) (h3 : szY b ≤ 20000) (h4 : dpY b ≤ 300) {c : Bool} (h : AprQ a b c) : qj Tryz.prog 15 [encY a, encY b] (.bool c) := by
 refine qg c0f (by simp) (by simp only [go_sem]) rfl fun hw => ?_
 have hL := qeg (l := [a, b]) (fun x hx => by simp at hx; rcases hx with rfl | rfl <;> exact ⟨by assumption, by assumption⟩)
 rw [← qe2] at hL
 by_cases hl : qd a = true ∧ qd b = true
 case neg =>
  rw [AprQ, if_neg hl] at h
  subst h
  rw [show [a, b].all qd = false by
   cases ha : qd a <;> cases hb : qd b <;> simp_all] at hL
  repeat' (first | refine vs_ ?_ | ((first | refine vr_ ?_ | refine qa hL fun _ => ?_ | refine qc hL ?_ | (refine cs_ ?_ ?_ <;> intro hc) | refine cj_ ?_ | fail) <;> (try refine ev_ ?_)) | with_reducible exact ti_)
 rw [AprQ, if_pos hl] at h
 obtain ⟨q, hq, rfl⟩ := h
 rw [show [a, b].all qd = true by simp [hl]] at hL
 have r1 := qgl (t := a) h1 h2 (k := 0) (by decide) (by decide)
 have r2 := qgl (t := b) h3 h4 (k := 1) (by decide) (by decide)
 obtain ⟨s1, s2⟩ := qyn a 0
 obtain ⟨s3, s4⟩ := qyn b 1
 have hU := q3o (qct s1 s2 s3 s4 hq) (by simp only [AV.bds, qz, Bool.and_true])
 repeat' (first | refine vs_ ?_ | ((first | refine vr_ ?_ | refine qa hL fun _ => ?_ | refine qa r1 fun _ => ?_ | refine qa r2 fun _ => ?_ | refine qa hU fun _ => ?_ | refine qc hL ?_ | refine qc r1 ?_ | refine qc r2 ?_ | refine qc hU ?_ | (refine cs_ ?_ ?_ <;> intro hc) | refine cj_ ?_ | fail) <;> (try refine ev_ ?_)) | with_reducible exact ti_)
end Go.Proofs.YtlahgbhhejkgbaaGreat
