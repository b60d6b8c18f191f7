/- Texts of this proof, joined. -/
import Derived.Test.YtlahgbhhejkgbaaGreatLbh
import Derived.Test.YtlahgbhhejkgbaaGreatLbk

/- made one: Unify, All, With, Apart -/
set_option maxRecDepth 4000
namespace Go.Proofs.YtlahgbhhejkgbaaGreat
open Go Go.RowKit Go.V
set_option linter.unusedVariables false
set_option linter.unusedSimpArgs false

mutual
theorem ql7 : ∀ t, (varY t).length ≤ szY t
 | .mk c v l => by
   have := qio l
   rw [qcv, qnp, List.length_append]
   split <;> simp <;> omega
theorem qio : ∀ l, (qbu l).length ≤ szYs l
 | [] => by rw [qbu, szYs]; exact Nat.le_refl _
 | x :: r => by
   have := ql7 x
   have := qio r
   rw [qbu, szYs, List.length_append]; omega
end
theorem qm4 {a b : Ty} (ha : qc a = true) (hb : qc b = true) : Inv (varY a ++ varY b) [] [(a, b)] := by
 refine ⟨qcu, fun p hp => by simp at hp, fun p hp => by simp at hp, fun p hp => by simp at hp, fun x hx => ?_, fun x hx w hw => ?_⟩
 ·simp at hx; subst hx; exact ⟨ha, hb⟩
 ·simp at hx; subst hx; simpa using hw
theorem qxs {a b : Ty} (ha : qc a = true) (hb : qc b = true) : (varY a ++ varY b).length ≤ 10000 := by
 have h1 := ((ql _).1 ha).1
 have h2 := ((ql _).1 hb).1
 have h3 := ql7 a
 have h4 := ql7 b
 rw [List.length_append]; omega
def UniQ (a b : Ty) (q : List Pr × Int) : Prop := if qc a = true ∧ qc b = true then ∃ n, slvU n [] [(a, b)] = some q else q = ([], 1)
theorem qbla (a b : Ty) : ∃ q, UniQ a b q := by
 by_cases h : qc a = true ∧ qc b = true
 ·obtain ⟨n, q, hq⟩ := qwh _ _ [] [(a, b)] (qm4 h.1 h.2) (Nat.le_refl _) (Nat.le_refl _)
  exact ⟨q, by rw [UniQ, if_pos h]; exact ⟨n, hq⟩⟩
 ·exact ⟨([], 1), by rw [UniQ, if_neg h]⟩
theorem qrq {a b : Ty} {q : List Pr × Int} (h : UniQ a b q) : okS q.1 ∧ q.1.length ≤ 10000 ∧ (q.2 ≠ 0 → q.1 = []) := by
 rw [UniQ] at h
 split at h
 ·rename_i hl
  obtain ⟨n, hq⟩ := h
  by_cases he : q.2 = 0
  ·obtain ⟨h1, _⟩ := qll n [] _ q (qm4 hl.1 hl.2) hq he
   exact ⟨h1.ok, Nat.le_trans h1.len (qxs hl.1 hl.2), fun h => absurd he h⟩
  ·have h0 : q.1 = [] := by
    obtain ⟨m, r, _, h1, h2, _⟩ := ql3 n [] [(a, b)] [] q (by simpa using hq)
    by_cases hr : r.2 = 0
    ·exfalso
     rename_i h3
     obtain ⟨k, _, h4⟩ := h3 hr
     rw [qgi] at h4
     simp only [Option.some.injEq] at h4
     subst h4
     exact he rfl
    ·obtain ⟨h3, h4⟩ := h2 hr
     rw [h3, h4]
   exact ⟨by rw [h0]; exact qcu, by rw [h0]; simp, fun _ => h0⟩
 ·subst h
  exact ⟨qcu, by simp, fun _ => rfl⟩
theorem qey (a b : Ty) : [encY a, encY b] = qq [a, b] := by rw [qq, qq, qq]
theorem qci {a b : Ty} (h1 : szY a ≤ 20000) (h2 : dpY a ≤ 300) (h3 : szY b ≤ 20000) (h4 : dpY b ≤ 300) {q : List Pr × Int} (h : UniQ a b q) : VCalls Tryz.prog 9 [] [encY a, encY b] (newQ [] q) := by
 have hL := qdz (l := [a, b]) (fun x hx => by simp at hx; rcases hx with rfl | rfl <;> exact ⟨by assumption, by assumption⟩)
 rw [← qey] at hL
 by_cases hl : qc a = true ∧ qc b = true
 ·rw [UniQ, if_pos hl] at h
  obtain ⟨n, hq⟩ := h
  rw [show [a, b].all qc = true by simp [hl]] at hL
  have hS := qjq (qxs hl.1 hl.2) (l := [(a, b)]) (by simp) (qm4 hl.1 hl.2) hq
  have hS : VCalls Tryz.prog 28 [] [.sl 6 [encW (a, b)]] (newQ [] q) := hS
  have hbw : AV.bds 0 [.sl 6 [encW (a, b)]] = true := by simp only [AV.bds, AV.bd, qe4, Bool.and_true]
  obtain ⟨r, e⟩ := q
  by_cases he : e = 0
  ·subst he
   refine qe c0k 1 (by simp) (by simp) ?_
   repeat' (first | refine vs_ ?_ | ((first | refine vr_ ?_ | refine qa hL fun _ => ?_ | (refine cs_ ?_ ?_ <;> intro hc) | refine cj_ ?_ | fail) <;> (try refine ev_ ?_)) | with_reducible exact ti_)
   refine qjw hS hbw rfl ?_
   (refine ev_ ?_; (try with_reducible exact ti_))
   refine qub (af' := ⟨[(4, .ptr 0 0), (5, .int .i64 0)], []⟩) (H' := [subE r]) ?_ (qys [2] rfl (by simp) ?_ ?_ ?_)
   ·repeat' (first | refine vs_ ?_ | ((first | refine vr_ ?_ | (refine cs_ ?_ ?_ <;> intro hc) | refine cj_ ?_ | fail) <;> (try refine ev_ ?_)) | with_reducible exact ti_)
    rw [newQ, if_pos rfl]; exact ⟨rfl, rfl⟩
   all_goals (try (refine ev_ ?_; (try with_reducible exact ti_)))
  ·refine qe c0k 0 (by simp) (by simp) ?_
   repeat' (first | refine vs_ ?_ | ((first | refine vr_ ?_ | refine qa hL fun _ => ?_ | refine qhb hS hbw rfl he ?_ | (refine cs_ ?_ ?_ <;> intro hc) | refine cj_ ?_ | fail) <;> (try refine ev_ ?_)) | with_reducible exact ti_)
   rw [newQ, if_neg he]; exact ⟨rfl, rfl⟩
 ·rw [UniQ, if_neg hl] at h
  subst h
  rw [show [a, b].all qc = false by
   cases ha : qc a <;> cases hb : qc b <;> simp_all] at hL
  refine qe c0k 0 (by simp) (by simp) ?_
  repeat' (first | refine vs_ ?_ | ((first | refine vr_ ?_ | refine qa hL fun _ => ?_ | (refine cs_ ?_ ?_ <;> intro hc) | refine cj_ ?_ | fail) <;> (try refine ev_ ?_)) | with_reducible exact ti_)
  rw [newQ, if_neg (by decide)]; exact ⟨rfl, rfl⟩
end Go.Proofs.YtlahgbhhejkgbaaGreat

/- made one: rows, behind a substitution, qj4 -/
set_option maxRecDepth 4000
namespace Go.V
open Go Go.RowKit
theorem VCalls.drop {P : Program} {f : FuncId} {args : List AV} {Q Q' : List Ent → VO → Prop} (h : VCalls P f [] args Q) (hq : ∀ H' o, Q H' o → ∃ r, Q' [] (.val r) ∧ ∃ r0, o = .val r0 ∧ ∀ w M G x, VR w M G r0 x → VR w M [] r x) : VCalls P f [] args Q' :=
 ⟨h.1, fun w M G vs hst hv => CallsIn.mono (h.2 w M G vs hst hv) fun e w' he => by
  have hG : G = [] := List.eq_nil_of_length_eq_zero hst.len
  subst hG
  cases e with
  | returned x =>
    obtain ⟨M', G', H', v, h1, h2, h3, h4⟩ := he
    obtain ⟨r, q1, r0, q2, q3⟩ := hq _ _ h1
    cases q2
    exact ⟨M', [], [], r, q1, ⟨h2.os, h2.tape, h2.output, h2.size, fun i g hg => by simp at hg, h2.le, h2.out, fun b ⟨i, g, hg, _⟩ => by simp at hg, h2.Mnew⟩, ⟨rfl, fun i g e hg => by simp at hg, fun i j g g' b hg => by simp at hg, fun i g b hg => by simp at hg, h3.Mlt, h3.one⟩, q3 _ _ _ _ h4⟩
  | panicked c =>
    obtain ⟨M', G', H', v, x, h1, h2, h3, h4, h5⟩ := he
    obtain ⟨r, q1, r0, q2, q3⟩ := hq _ _ h1
    cases q2
  | outgrown => exact he⟩
end Go.V
namespace Go.Proofs.YtlahgbhhejkgbaaGreat
open Go Go.RowKit Go.V
set_option linter.unusedVariables false
set_option linter.unusedSimpArgs false

theorem q4b {f : FuncId} {args : List AV} {q : List Pr × Int} (h : VCalls Tryz.prog f [] args (newQ [] q)) (ha : AV.bds 0 args = true) : qn Tryz.prog f args (.tup [.junk, .int .i64 q.2]) := by
 refine ⟨h.drop fun H' o hq => ?_, ha, rfl⟩
 refine ⟨_, ⟨rfl, rfl⟩, ?_⟩
 rw [newQ] at hq
 split at hq
 ·rename_i he
  refine ⟨_, hq.2, fun w M G x hx => ?_⟩
  obtain ⟨vs, rfl, v, r, rfl, _, v2, r2, rfl, h2, rfl⟩ := hx
  rw [he]
  exact ⟨_, rfl, v, _, rfl, trivial, v2, _, rfl, h2, rfl⟩
 ·refine ⟨_, hq.2, fun w M G x hx => ?_⟩
  obtain ⟨vs, rfl, v, r, rfl, _, v2, r2, rfl, h2, rfl⟩ := hx
  exact ⟨_, rfl, v, _, rfl, trivial, v2, _, rfl, h2, rfl⟩
def AllQ (l m : List Ty) (q : List Pr × Int) : Prop :=
 if l.all qc = true ∧ m.all qc = true then (if l.length = m.length then ∃ n, slvU n [] (l.zip m) = some q else q = ([], 14)) else q = ([], 1)
theorem q8z {l m : List Ty} (hl : l.all qc = true) (hm : m.all qc = true) : Inv (qbu l ++ qbu m) [] (l.zip m) := by
 refine ⟨qcu, fun p hp => by simp at hp, fun p hp => by simp at hp, fun p hp => by simp at hp, fun x hx => ?_, fun x hx w hw => ?_⟩
 ·obtain ⟨h1, h2⟩ := qm8 hx
  exact ⟨List.all_eq_true.1 hl _ h1, List.all_eq_true.1 hm _ h2⟩
 ·obtain ⟨h1, h2⟩ := qm8 hx
  rcases hw with hw | hw
  ·exact List.mem_append.2 (.inl (qfd h1 hw))
  ·exact List.mem_append.2 (.inr (qfd h2 hw))
theorem qwo {l m : List Ty} (h1 : ∀ x ∈ l, szY x ≤ 20000 ∧ dpY x ≤ 300) (h2 : ∀ x ∈ m, szY x ≤ 20000 ∧ dpY x ≤ 300) (hs : szYs l + szYs m ≤ 10000) {q : List Pr × Int} (h : AllQ l m q) : VCalls Tryz.prog 13 [] [.sl 3 (qq l), .sl 3 (qq m)] (newQ [] q) := by
 have L1 := qdz h1
 have L2 := qdz h2
 have hbl : l.length ≤ 10000 := by have := qg1 l; omega
 by_cases hl : l.all qc = true
 case neg =>
  rw [AllQ, if_neg (fun h => hl h.1)] at h
  subst h
  rw [Bool.not_eq_true] at hl
  rw [hl] at L1
  refine qe c0i 0 (by simp) (by simp) ?_
  repeat' (first | refine vs_ ?_ | ((first | refine vr_ ?_ | refine qa L1 fun _ => ?_ | (refine cs_ ?_ ?_ <;> intro hc) | refine cj_ ?_ | fail) <;> (try refine ev_ ?_)) | with_reducible exact ti_)
  rw [newQ, if_neg (by decide)]; exact ⟨rfl, rfl⟩
 rw [hl] at L1
 by_cases hm : m.all qc = true
 case neg =>
  rw [AllQ, if_neg (fun h => hm h.2)] at h
  subst h
  rw [Bool.not_eq_true] at hm
  rw [hm] at L2
  refine qe c0i 0 (by simp) (by simp) ?_
  repeat' (first | refine vs_ ?_ | ((first | refine vr_ ?_ | refine qa L1 fun _ => ?_ | refine qa L2 fun _ => ?_ | (refine cs_ ?_ ?_ <;> intro hc) | refine cj_ ?_ | fail) <;> (try refine ev_ ?_)) | with_reducible exact ti_)
  rw [newQ, if_neg (by decide)]; exact ⟨rfl, rfl⟩
 rw [hm] at L2
 rw [AllQ, if_pos ⟨hl, hm⟩] at h
 by_cases hlen : l.length = m.length
 case neg =>
  rw [if_neg hlen] at h
  subst h
  refine qe c0i 0 (by simp) (by simp) ?_
  repeat' (first | refine vs_ ?_ | ((first | refine vr_ ?_ | refine qa L1 fun _ => ?_ | refine qa L2 fun _ => ?_ | (refine cs_ ?_ ?_ <;> intro hc) | refine cj_ ?_ | fail) <;> (try refine ev_ ?_)) | with_reducible exact ti_)
  all_goals try (exfalso; omega)
  rw [newQ, if_neg (by decide)]; exact ⟨rfl, rfl⟩
 rw [if_pos hlen] at h
 obtain ⟨n, hq⟩ := h
 have fp := qkd hlen (by omega)
 have hS := qjq (V := qbu l ++ qbu m) (by have := qio l; have := qio m; rw [List.length_append]; omega) (l := l.zip m) (by rw [List.length_zip]; omega) (q8z hl hm) hq
 have hbw : AV.bds 0 [.sl 6 (qbi (l.zip m))] = true := by simp only [AV.bds, AV.bd, qb1, Bool.and_true]
 obtain ⟨r, e⟩ := q
 by_cases he : e = 0
 ·subst he
  refine qe c0i 1 (by simp) (by simp) ?_
  repeat' (first | refine vs_ ?_ | ((first | refine vr_ ?_ | refine qa L1 fun _ => ?_ | refine qa L2 fun _ => ?_ | refine qa fp fun _ => ?_ | refine qjw hS hbw rfl ?_ | (refine cs_ ?_ ?_ <;> intro hc) | refine cj_ ?_ | fail) <;> (try refine ev_ ?_)) | with_reducible exact ti_)
  all_goals try (exfalso; omega)
  rw [newQ, if_pos rfl]; exact ⟨rfl, rfl⟩
 ·refine qe c0i 0 (by simp) (by simp) ?_
  repeat' (first | refine vs_ ?_ | ((first | refine vr_ ?_ | refine qa L1 fun _ => ?_ | refine qa L2 fun _ => ?_ | refine qa fp fun _ => ?_ | refine qhb hS hbw rfl he ?_ | (refine cs_ ?_ ?_ <;> intro hc) | refine cj_ ?_ | fail) <;> (try refine ev_ ?_)) | with_reducible exact ti_)
  all_goals try (exfalso; omega)
  rw [newQ, if_neg he]; exact ⟨rfl, rfl⟩
theorem qt8 {s u r : List Pr} {a b A B : Ty} (hs : okS s) (hl : s.length ≤ 40000) (ha : qc a = true) (hb : qc b = true) (hA : appR s a = (A, 0)) (hB : appR s b = (B, 0)) (hu : UniQ A B (u, 0)) (hr : behR s u = (r, 0)) :
 VCalls Tryz.prog 26 [subE s] [.ptr 0 0, encY a, encY b] fun H' o => H' = [subE s, subE r] ∧ o = .val (.tup [.ptr 1 0, .int .i64 0]) := by
 have f1 := vm_A hs hl ha hA
 have f2 := vm_A hs hl hb hB
 have hAl : qc A = true := by
  have := qbc hs (t := a) (by rw [hA])
  rw [hA] at this
  have h3 : A = putY s a := this.2.2
  rw [h3]; exact this.2.1
 have hBl : qc B = true := by
  have := qbc hs (t := b) (by rw [hB])
  rw [hB] at this
  have h3 : B = putY s b := this.2.2
  rw [h3]; exact this.2.1
 have z1 := (ql _).1 hAl
 have z2 := (ql _).1 hBl
 have hU := qci (by omega) (by omega) (by omega) (by omega) hu
 obtain ⟨o1, o2, _⟩ := qrq hu
 dsimp only at o1 o2
 have hbU : AV.bds 0 [encY A, encY B] = true := by simp only [AV.bds, qz, Bool.and_true]
 refine qe c0j 2 (by simp) (by simp) ?_
 repeat' (first | refine vs_ ?_ | ((first | refine vr_ ?_ | refine qu 0 f1 (bY _) (bYi _ _) ?_ | refine qu 0 f2 (bY _) (bYi _ _) ?_ | refine qjw hU hbU rfl ?_ | (refine cs_ ?_ ?_ <;> intro hc) | refine cj_ ?_ | fail) <;> (try refine ev_ ?_)) | with_reducible exact ti_)
 refine qy7 0 5 hs o1 hl (by omega) (by decide) hr ?_
 (refine ev_ ?_; (try with_reducible exact ti_))
 refine qub (af' := ⟨[(6, .ptr 1 0), (7, .int .i64 0)], []⟩) (H' := [subE s, subE r]) ?_ (qys [0, 6] rfl (by simp) ?_ ?_ ?_)
 ·repeat' (first | refine vs_ ?_ | ((first | refine vr_ ?_ | (refine cs_ ?_ ?_ <;> intro hc) | refine cj_ ?_ | fail) <;> (try refine ev_ ?_)) | with_reducible exact ti_)
 all_goals (try (refine ev_ ?_; (try with_reducible exact ti_)))
/-! renamed -/
def rnS : List Int → Int → List Pr → List Pr
 | [], _, s => s
 | v :: r, k, s => rnS r (k + 2) (setR s v (.mk [] k [])).1
theorem qr8 : ∀ (l : List Int) (v k : Int) (s : List Pr), rnS (l ++ [v]) k s = (setR (rnS l k s) v (.mk [] (k + 2 * l.length) [])).1
 | [], v, k, s => by simp [rnS]
 | x :: l, v, k, s => by
   rw [List.cons_append, rnS, rnS, qr8 l v (k + 2), List.length_cons]
   congr 3
   push_cast; omega
theorem qzf : ∀ (l : List Int) (k : Int) {s : List Pr}, okS s → okS (rnS l k s) ∧ (rnS l k s).length ≤ s.length + l.length
 | [], k, s, h => ⟨h, by simp [rnS]⟩
 | v :: r, k, s, h => by
   have h1 := qzf r (k + 2) (qkn h v (.mk [] k []))
   have h2 := qiy s v (.mk [] k [])
   rw [rnS, List.length_cons]
   exact ⟨h1.1, by omega⟩
def rnU (t : Ty) (k : Int) : Ty := (appR (rnS (qd2 [] (varY t)) k []) t).1
end Go.Proofs.YtlahgbhhejkgbaaGreat

/- made one: renamed, qj4 -/
set_option maxRecDepth 4000
namespace Go.Proofs.YtlahgbhhejkgbaaGreat
open Go Go.RowKit Go.V
set_option linter.unusedVariables false
set_option linter.unusedSimpArgs false

theorem q4p (t : Ty) (ht : szY t ≤ 20000) : (qd2 [] (varY t)).length ≤ 20000 := by
 have h1 : ∀ (l acc : List Int), (qd2 acc l).length ≤ acc.length + l.length := fun l => by
  induction l with
  | nil => intro acc; simp [qd2]
  | cons x r ih =>
    intro acc
    rw [qd2]
    split
    ·have := ih acc; rw [List.length_cons]; omega
    ·have := ih (acc ++ [x]); rw [List.length_append] at this; simp only [List.length_cons, List.length_nil] at this ⊢; omega
 have := h1 (varY t) []
 have := ql7 t
 simp only [List.length_nil] at *
 omega
theorem qti {l : List Int} {i : Nat} (h : i < l.length) : l.take (i + 1) = l.take i ++ [l.getD i 0] := by
 rw [List.take_add_one, List.getD_eq_getElem?_getD, List.getElem?_eq_getElem h]; rfl
theorem q25 {l : List Int} {i : Nat} (h : i < l.length) (k : Int) : rnS (l.take (i + 1)) k [] = (setR (rnS (l.take i) k []) (l.getD i 0) (.mk [] (k + 2 * i) [])).1 := by
 rw [qti h, qr8, List.length_take, Nat.min_eq_left (Nat.le_of_lt h)]
theorem q9a (v : Int) : szY (.mk [] v []) ≤ 20000 ∧ dpY (.mk [] v []) ≤ 300 := ⟨by simp [szY, szYs], by simp [dpY, dpYs]⟩
set_option maxHeartbeats 1000000 in
theorem qf5 {t : Ty} (h1 : szY t ≤ 20000) (h2 : dpY t ≤ 300) {k : Int} (hk0 : 0 ≤ k) (hk1 : k ≤ 1) : qn Tryz.prog 34 [encY t, .int .i64 k] (encY (rnU t k)) := by
 refine qf c0g (by simp) (by simp only [go_sem]) (qz 0 _) fun hw => ?_
 have hV := qt2 t (by omega)
 have hvl := q4p t h1
 rw [rnU]
 generalize qd2 [] (varY t) = vs at hV hvl ⊢
 unfold k0g
 refine qb7 (qd6 ?_)
 (refine ev_ ?_; (try with_reducible exact ti_))
 refine qe6 (S := Unit) (fun _ => True) (fun _ => (⟨[(1, .int .i64 k), (2, .ptr 0 0), (4, .ptr 1 0), (5, .ptr 2 0)], []⟩, [.blk (yc t), .blk [.str [], .int .i64 0, .nils], subE []])) ?_ fun _ _ => ?_
 ·repeat' (first | refine vs_ ?_ | ((first | refine vr_ ?_ | refine qf4 qiq rfl rfl ?_ | (refine cs_ ?_ ?_ <;> intro hc) | refine cj_ ?_ | simp (disch := omega) only [encs_getN, qb]) <;> (try refine ev_ ?_)) | with_reducible exact ti_)
  refine qm () [0, 1, 2] trivial rfl (by simp) ?_ ?_ ?_ <;> (try refine ev_ ?_) <;> (try with_reducible exact ti_) <;> (try simp (disch := omega) only [qb, and_true, true_and])
 repeat' (first | refine vs_ ?_ | ((first | refine vr_ ?_ | refine qa hV fun _ => ?_ | (refine cs_ ?_ ?_ <;> intro hc) | refine cj_ ?_ | simp (disch := omega) only [encs_getN, qb]) <;> (try refine ev_ ?_)) | with_reducible exact ti_)
 refine qp (S := Nat) (fun i => i ≤ vs.length) (fun i => (⟨[(1, .int .i64 k), (2, .ptr 0 0), (4, .ptr 1 0), (5, .ptr 2 0), (12, .sl 1 (ints vs)), (13, .int .i64 vs.length), (14, .int .i64 i)], []⟩, [.blk (yc t), .blk [.str [], .int .i64 0, .nils], subE (rnS (vs.take i) k [])])) (fun i => vs.length - i) ?_ fun i hi => ?_
 ·refine qm 0 [0, 1, 2] (Nat.zero_le _) rfl (by simp) ?_ ?_ ?_ <;> (try refine ev_ ?_) <;> (try with_reducible exact ti_) <;> (try simp (disch := omega) only [qb, and_true, true_and])
  all_goals rfl
 ·obtain ⟨ho, hlen⟩ := qzf (vs.take i) k qcu
  rw [List.length_take, Nat.min_eq_left hi, List.length_nil, Nat.zero_add] at hlen
  by_cases hlt : i < vs.length
  ·have hg := qps hlt
   obtain ⟨q1, q2⟩ := q9a (k + 2 * i)
   have hS := qfv ho.1 (by omega) (vs.getD i 0) q1 q2
   rw [← q25 hlt] at hS
   have hS : VM Tryz.prog 36 (subE (rnS (vs.take i) k [])) (subE (rnS (vs.take (i + 1)) k [])) [.ptr 0 0, .int .i64 (vs.getD i 0), .agg [.str [], .int .i64 (k + 2 * i), .sl 3 []]] (.int .i64 (setR (rnS (vs.take i) k []) (vs.getD i 0) (.mk [] (k + 2 * i) [])).2) := by
    have e : encY (.mk [] (k + 2 * i) []) = .agg [.str [], .int .i64 (k + 2 * i), .sl 3 []] := by simp only [encY, qq]
    rwa [e] at hS
   have hw2 : IntKind.i64.wrap (2 * (i : Int)) = 2 * i := qt (by omega) (by omega)
   have hw3 : IntKind.i64.wrap (k + 2 * (i : Int)) = k + 2 * i := qt (by omega) (by omega)
   repeat' (first | refine vs_ ?_ | ((first | refine vr_ ?_ | fail) <;> (try simp (disch := first | omega | (simp only [List.length_set, List.length_append, List.length_cons, List.length_nil]; done) | (simp only [List.length_set, List.length_append, List.length_cons, List.length_nil]; omega)) only [hg, hw2, hw3, qb, go_sem, ↓reduceIte])) | ((first | simp (disch := omega) only [hg] | simp (disch := omega) only [hw2] | simp (disch := omega) only [hw3] | (refine cs_ ?_ ?_ <;> intro hc) | refine cj_ ?_ | simp (disch := omega) only [encs_getN, qb] | refine qu 2 hS rfl rfl ?_) <;> (try refine ev_ ?_)) | with_reducible exact ti_)
   all_goals try (exfalso; omega)
   refine qm (i + 1) [0, 1, 2] ⟨by omega, by omega⟩ rfl (by simp) ?_ ?_ ?_ <;> (try refine ev_ ?_) <;> (try with_reducible exact ti_) <;> (try simp (disch := omega) only [qb, and_true, true_and])
   rw [qt (by omega) (by omega), Int.natCast_add]; rfl
  ·have hie : i = vs.length := by omega
   subst hie
   rw [List.take_length] at ho hlen ⊢
   have hA := qgh ho (by omega) h1 h2
   have hT : typA (appR (rnS vs k []) t) = .tup [encY (appR (rnS vs k []) t).1, .int .i64 (appR (rnS vs k []) t).2] := rfl
   rw [hT] at hA
   repeat' (first | refine vs_ ?_ | ((first | refine vr_ ?_ | refine qu 2 hA (bY _) (bYi _ _) ?_ | (refine cs_ ?_ ?_ <;> intro hc) | refine cj_ ?_ | simp (disch := omega) only [encs_getN, qb]) <;> (try refine ev_ ?_)) | with_reducible exact ti_)
   all_goals try (exfalso; omega)
theorem qxn (t : Ty) (k : Int) : szY (rnU t k) ≤ 20000 ∧ dpY (rnU t k) ≤ 300 := by
 have ho := (qzf (qd2 [] (varY t)) k qcu).1
 rw [rnU]
 by_cases he : (appR (rnS (qd2 [] (varY t)) k []) t).2 = 0
 ·exact q2b ho he
 ·rw [q3t ho he]; exact ⟨by decide, by decide⟩
def AprQ (a b : Ty) (c : Bool) : Prop := if qc a = true ∧ qc b = true then ∃ q, UniQ (rnU a 0) (rnU b 1) q ∧ c = (decide (q.2 = 14) || decide (q.2 = 15)) else c = false
set_option maxHeartbeats 1000000 in
theorem qkv {a b : Ty} (h1 : szY a ≤ 20000) (h2 : dpY a ≤ 300) (h3 : szY b ≤ 20000) (h4 : dpY b ≤ 300) {c : Bool} (h : AprQ a b c) : qn Tryz.prog 15 [encY a, encY b] (.bool c) := by
 refine qf c0h (by simp) (by simp only [go_sem]) rfl fun hw => ?_
 have hL := qdz (l := [a, b]) (fun x hx => by simp at hx; rcases hx with rfl | rfl <;> exact ⟨by assumption, by assumption⟩)
 rw [← qey] at hL
 by_cases hl : qc a = true ∧ qc b = true
 case neg =>
  rw [AprQ, if_neg hl] at h
  subst h
  rw [show [a, b].all qc = false by
   cases ha : qc a <;> cases hb : qc b <;> simp_all] at hL
  repeat' (first | refine vs_ ?_ | ((first | refine vr_ ?_ | refine qa hL fun _ => ?_ | refine qg hL ?_ | (refine cs_ ?_ ?_ <;> intro hc) | refine cj_ ?_ | fail) <;> (try refine ev_ ?_)) | with_reducible exact ti_)
 rw [AprQ, if_pos hl] at h
 obtain ⟨q, hq, rfl⟩ := h
 rw [show [a, b].all qc = true by simp [hl]] at hL
 have r1 := qf5 (t := a) h1 h2 (k := 0) (by decide) (by decide)
 have r2 := qf5 (t := b) h3 h4 (k := 1) (by decide) (by decide)
 obtain ⟨s1, s2⟩ := qxn a 0
 obtain ⟨s3, s4⟩ := qxn b 1
 have hU := q4b (qci s1 s2 s3 s4 hq) (by simp only [AV.bds, qz, Bool.and_true])
 repeat' (first | refine vs_ ?_ | ((first | refine vr_ ?_ | refine qa hL fun _ => ?_ | refine qa r1 fun _ => ?_ | refine qa r2 fun _ => ?_ | refine qa hU fun _ => ?_ | refine qg hL ?_ | refine qg r1 ?_ | refine qg r2 ?_ | refine qg hU ?_ | (refine cs_ ?_ ?_ <;> intro hc) | refine cj_ ?_ | fail) <;> (try refine ev_ ?_)) | with_reducible exact ti_)
end Go.Proofs.YtlahgbhhejkgbaaGreat
