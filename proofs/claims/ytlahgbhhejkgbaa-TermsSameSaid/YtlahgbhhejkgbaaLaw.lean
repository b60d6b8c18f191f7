/- Texts of this proof, joined. -/
import Derived.Test.YtlahgbhhejkgbaaLau
import Derived.Test.YtlahgbhhejkgbaaLav

/- the reader of terms: copies of rows, what is taken, atoms -/
set_option maxRecDepth 4000
namespace Go.Proofs.Ytlahgbhhejkgbaa
open Go Go.RowKit Go.V
set_option linter.unusedVariables false
set_option linter.unusedSimpArgs false

theorem qdq (s : List UInt8) : ql Try.prog 101 [.str s] (encY (qin s)) := by
 refine qf c0bs (by simp) (by simp only [go_sem]) (qb4 0 _) fun hw => ?_
 have hr := qfq (s.drop 1)
 cases hp : pfx [63] s with
 | false =>
   repeat' (first | refine vs_ ?_ | ((first | refine vr_ ?_ | fail) <;> (try simp only [hp, go_sem, ↓reduceIte])) | ((first | (refine cs_ ?_ ?_ <;> intro hc) | refine cj_ ?_ | fail | refine qa (qfa _) fun _ => ?_ | refine qa (qe _ _) fun _ => ?_) <;> (try refine ev_ ?_)) | with_reducible exact ti_)
   ·rw [qin, if_pos (by assumption)]; rfl
   ·rw [qin, if_neg (by assumption), hp]; rfl
 | true =>
   have hl := qp3 hp
   repeat' (first | refine vs_ ?_ | ((first | refine vr_ ?_ | fail) <;> (try simp only [hp, go_sem, ↓reduceIte])) | ((first | (refine cs_ ?_ ?_ <;> intro hc) | refine cj_ ?_ | fail | refine qa (qfa _) fun _ => ?_ | refine qa (qe _ _) fun _ => ?_ | refine qa (qeo _) fun _ => ?_) <;> (try refine ev_ ?_)) | with_reducible exact ti_)
   ·rw [qin, if_pos (by assumption)]; rfl
   ·rw [qin, if_neg (by assumption), if_pos (by assumption), if_pos (by assumption), qbg (by omega) (by omega)]; rfl
   ·rw [qin, if_neg (by assumption), if_pos (by assumption), if_neg (by assumption)]; rfl

/-! a copy of a row -/
abbrev qld : FuncId := 75
theorem qo2 : VCalls Try.prog qld [] [.sl 3 (qj [])] fun H' o => H' = [] ∧ o = .val (.lit 3 []) := by
 refine qm0 (k := 3) (Q' := fun H' o => H' = [] ∧ (o = .val (.lit 3 []) ∨ o = .val .nils)) ?_ fun H' o h => ?_
 ·refine qha c0bt 0 (by simp) (by simp) ?_
  unfold k0bt
  refine qbs (qea ?_)
  (refine ev_ ?_; (try with_reducible exact ti_))
  refine qbs (qbs (qqy (l := [⟨none, some 3, .v (.mov (.t 0))⟩]) (t := 4) (x := .t 3) ?_))
  (refine ev_ ?_; (try with_reducible exact ti_))
  refine ⟨3, qj [], rfl, fun b hb => ?_⟩
  cases b
  ·repeat' (first | refine vs_ ?_ | ((first | refine vr_ ?_ | (refine cs_ ?_ ?_ <;> intro hc) | refine cj_ ?_ | fail) <;> (try refine ev_ ?_)) | with_reducible exact ti_)
  ·repeat' (first | refine vs_ ?_ | ((first | refine vr_ ?_ | (refine cs_ ?_ ?_ <;> intro hc) | refine cj_ ?_ | fail) <;> (try refine ev_ ?_)) | with_reducible exact ti_)
 ·rcases h with ⟨h, h1 | h1⟩
  ·exact .inl ⟨h, h1⟩
  ·exact .inr ⟨h1, h, rfl⟩
theorem qpf {l : List Ty} (h0 : l ≠ []) (hl : l.length ≤ 4294967296) : VCalls Try.prog qld [] [.sl 3 (qj l)] fun H' o => H' = [.app 3 (qj l)] ∧ o = .val (.row 0 l.length) := by
 refine qha c0bt 1 (by simp) (by simp) ?_
 unfold k0bt
 refine qbs (qea ?_)
 (refine ev_ ?_; (try with_reducible exact ti_))
 refine qbs (qbs (qqy (l := [⟨none, some 3, .v (.mov (.t 0))⟩]) (t := 4) (x := .t 3) ?_))
 (refine ev_ ?_; (try with_reducible exact ti_))
 refine ⟨3, qj l, rfl, fun b hb => ?_⟩
 have hcap : qcp l.length 48 = True := eq_true (by unfold qcp; omega)
 have hln : (qj l).length ≠ 0 := by rw [qb6]; exact fun h => h0 (List.length_eq_zero_iff.1 h)
 have hln2 : ¬ l.length = 0 := fun h => h0 (List.length_eq_zero_iff.1 h)
 cases b
 ·repeat' (first | refine vs_ ?_ | ((first | refine vr_ ?_ | fail) <;> (try simp only [hln2, hcap, Nat.zero_add, go_sem, ↓reduceIte])) | ((first | (refine cs_ ?_ ?_ <;> intro hc) | refine cj_ ?_ | fail) <;> (try refine ev_ ?_)) | with_reducible exact ti_)
 ·exact absurd (hb rfl) (fun h => hln (by rw [h]; rfl))
section
variable {l : List Ty} {H : List Ent} {args raws : List AV} {K : Md → AV → List Ent → Prop}
theorem qso (hl : l = []) (hq : K .here (.lit 3 []) H) (ha : args = [.sl 3 (qj l)] := by rfl) : DApp Try.prog H (.fn qld [] []) args raws K := by
 subst hl
 subst ha
 refine .inl ⟨_, qfz ?_, hq⟩
 rw [List.nil_append, List.append_nil]
 refine qel [] qo2 (by simp) trivial (by simp [AV.bds, AV.bd, qbr]) (by simp only [AV.rens, AV.ren, qca]) fun H1 o ho => ?_
 obtain ⟨rfl, rfl⟩ := ho
 exact ⟨by simp [qkj, qp], rfl⟩
theorem qtq (h0 : l ≠ []) (hl : l.length ≤ 4294967296) (hq : K (.grow none (.app 3 (qj l)) l.length) (.row H.length l.length) (H ++ [.app 3 (qj l)])) (hr : raws = [.sl 3 (qj l)] := by rfl) : DApp Try.prog H (.fn qld [] []) args raws K := by
 subst hr
 refine .inr (.inr (.inr ⟨none, .app 3 (qj l), l.length, ⟨fun q hq => (by cases hq), fun H₀ h0' => ?_⟩, hq⟩))
 refine qfz ?_
 rw [List.nil_append, List.append_nil]
 refine qel [] (qpf h0 hl) (by simp) trivial (by simp [AV.bds, AV.bd, qbr]) (by simp only [AV.rens, AV.ren, qca]) fun H1 o ho => ?_
 obtain ⟨rfl, rfl⟩ := ho
 refine ⟨?_, ?_⟩
 ·show H₀ ++ [(Ent.app 3 (qj l)).ren _] = H₀ ++ [_]
  rw [Ent.ren, qca]
 ·show VO.val (.row (H₀.length + (0 - 0)) _) = _
  simp
end
/-! the reader -/
def rdE (r : Rd) : Ent := .blk [.str r.s, .int .i64 r.lv, .bool r.bad]
attribute [go_sem] rdE cutR badR lvR
theorem qz4 {p s : List UInt8} (h : pfx p s = true) : p.length ≤ s.length := by
 simp only [pfx, decide_eq_true_eq] at h
 have := congrArg List.length h
 rw [List.length_take] at this
 omega
theorem qhp {r : Rd} {p : List UInt8} (h : pfx p r.s = true) : VM Try.prog 74 (rdE r) (rdE (cutR p.length r)) [.ptr 0 0, .str p] (.bool true) := by
 refine qba c0bu 1 (by simp) (by simp) ?_
 have hl := qz4 h
 repeat' (first | refine vs_ ?_ | ((first | refine vr_ ?_ | fail) <;> (try simp only [h, go_sem, ↓reduceIte])) | ((first | (refine cs_ ?_ ?_ <;> intro hc) | refine cj_ ?_ | fail | refine qa (qe _ _) fun _ => ?_) <;> (try refine ev_ ?_)) | with_reducible exact ti_)
theorem qj0 {r : Rd} {p : List UInt8} (h : pfx p r.s = false) : VM Try.prog 74 (rdE r) (rdE r) [.ptr 0 0, .str p] (.bool false) := by
 refine qba c0bu 1 (by simp) (by simp) ?_
 repeat' (first | refine vs_ ?_ | ((first | refine vr_ ?_ | fail) <;> (try simp only [h, go_sem, ↓reduceIte])) | ((first | (refine cs_ ?_ ?_ <;> intro hc) | refine cj_ ?_ | fail | refine qa (qe _ _) fun _ => ?_) <;> (try refine ev_ ?_)) | with_reducible exact ti_)
set_option maxRecDepth 4000

theorem qln : ∀ {H : List Ent} {i : Nat}, H.length ≤ i → ent H i = .dead
 | [], _, _ => rfl
 | _ :: _, 0, h => absurd h (by simp)
 | _ :: H, i + 1, h => qln (H := H) (i := i) (by simpa using h)
section
variable {P : Program} {f : FuncId} {e e' : Ent} {aa args caps rs : List AV} {r : AV} {H : List Ent} {Kk : Md → AV → List Ent → Prop}
theorem q06 (i : Nat) (h : VM P f e e' aa r) (hq : Kk (.meth i e e') r (H.set i e')) (hn : e ≠ .dead := by intro h; cases h) (hb : e.bd 0 = true := by rfl) (hb' : e'.bd 0 = true := by rfl) (he : ent H i = e := by rfl) (hr : r.bd 0 = true := by first | rfl | simp [go_sem])
 (e1 : args ++ caps = AV.rens (sg [i]) aa := by first | rfl | (simp only [go_sem]; rfl) | (simp [go_sem, sg, AV.rens, AV.ren]; done)) (ha : AV.bds 1 aa = true := by first | rfl | (simp only [go_sem]; done) | simp [go_sem, AV.bds, AV.bd]) : DApp P H (.fn f [] caps) args rs Kk :=
 .inr (.inr (.inl ⟨r, i, e, e', ⟨hn, he, fun H₀ h0 => qbm i h ⟨rfl, rfl⟩ hb hb' (by
  rcases Nat.lt_or_ge i H₀.length with h1 | h1
  ·exact h1
  ·exact absurd (h0.symm.trans (qln h1)) hn) h0 hr e1 ha⟩, hq⟩))
end
theorem qgt {H L : List Ent} {K : List Ent → Prop} {r : Rd} (h0 : -1 ≤ r.lv) (h1 : r.lv ≤ 1000) (hH : H = rdE r :: .blk [.ptr 0 0] :: L) (hq : K (rdE (lvR (r.lv - 1) r) :: .blk [.ptr 0 0] :: L)) : dlqD Try.prog [.dfr (.fn 71 [] [.ptr 1 0]) []] H K := by
 subst hH
 refine ⟨_, [], [.ptr 1 0], rfl, q08 c0bq (by simp) ?_⟩
 have hw : IntKind.i64.wrap (r.lv - 1) = r.lv - 1 := qbg (by omega) (by omega)
 repeat' (first | refine vs_ ?_ | ((first | refine vr_ ?_ | fail) <;> (try simp only [hw, go_sem, ↓reduceIte])) | ((first | (refine cs_ ?_ ?_ <;> intro hc) | refine cj_ ?_ | fail) <;> (try refine ev_ ?_)) | with_reducible exact ti_)
 exact ⟨rfl, hq⟩

theorem qo9 {n : Nat} {r : Rd} (hp : pfx [40] r.s = false) (hk : ascS r.s) : VM Try.prog 72 (rdE r) (rdE (qil r).2) [.ptr 0 0] (encY (qil r).1) := by
 refine qba c0br 1 (by simp) (by simp) ?_
 have hx := qfd hk
 have hw := qmg r.s
 by_cases hl : qdk r.s < r.s.length
 ·rw [qfk, if_pos hl] at hx
  repeat' (first | refine vs_ ?_ | ((first | refine vr_ ?_ | refine qbm 0 (qj0 hp) ?_ | refine qa hx fun _ => ?_ | refine qa (qdq _) fun _ => ?_ | refine qi hx ?_ | refine qi (qdq _) ?_ | (refine cs_ ?_ ?_ <;> intro hc) | refine cj_ ?_ | fail) <;> (try refine ev_ ?_)) | with_reducible exact ti_)
  all_goals first | (exfalso; omega) | (simp [qil, badR, cutR, *]; done) | (have hl2 : qdk r.s = r.s.length := (by omega); simp [qil, badR, cutR, *]; done)
 ·rw [qfk, if_neg hl] at hx
  repeat' (first | refine vs_ ?_ | ((first | refine vr_ ?_ | refine qbm 0 (qj0 hp) ?_ | refine qa hx fun _ => ?_ | refine qa (qdq _) fun _ => ?_ | refine qi hx ?_ | refine qi (qdq _) ?_ | (refine cs_ ?_ ?_ <;> intro hc) | refine cj_ ?_ | fail) <;> (try refine ev_ ?_)) | with_reducible exact ti_)
  all_goals first | (exfalso; omega) | (simp [qil, badR, cutR, *]; done) | (have hl2 : qdk r.s = r.s.length := (by omega); simp [qil, badR, cutR, *]; done)
theorem qur {r : Rd} {p : Ty × Rd} (hp : pfx [40] r.s = true) (hT : VM Try.prog 53 (rdE (cutR 1 r)) (rdE p.2) [.ptr 0 0] (encY p.1)) : VM Try.prog 72 (rdE r) (rdE (endA p).2) [.ptr 0 0] (encY (endA p).1) := by
 refine qba c0br 1 (by simp) (by simp) ?_
 cases hb : p.2.bad with
 | true =>
   rw [endA, if_pos hb]
   repeat' (first | refine vs_ ?_ | ((first | refine vr_ ?_ | fail) <;> (try simp only [hb, go_sem, ↓reduceIte])) | ((first | (refine cs_ ?_ ?_ <;> intro hc) | refine cj_ ?_ | fail | refine qbm 0 (qhp hp) ?_ | refine qbm 0 hT ?_) <;> (try refine ev_ ?_)) | with_reducible exact ti_)
 | false =>
   cases hc : pfx [41] p.2.s with
   | true =>
     rw [endA, if_neg (by simp [hb]), if_pos hc]
     repeat' (first | refine vs_ ?_ | ((first | refine vr_ ?_ | fail) <;> (try simp only [hb, go_sem, ↓reduceIte])) | ((first | (refine cs_ ?_ ?_ <;> intro hc) | refine cj_ ?_ | fail | refine qbm 0 (qhp hp) ?_ | refine qbm 0 hT ?_ | refine qbm 0 (qhp (r := ⟨p.2.s, p.2.lv, false⟩) hc) ?_) <;> (try refine ev_ ?_)) | with_reducible exact ti_)
   | false =>
     rw [endA, if_neg (by simp [hb]), if_neg (by simp [hc])]
     repeat' (first | refine vs_ ?_ | ((first | refine vr_ ?_ | fail) <;> (try simp only [hb, go_sem, ↓reduceIte])) | ((first | (refine cs_ ?_ ?_ <;> intro hc) | refine cj_ ?_ | fail | refine qbm 0 (qhp hp) ?_ | refine qbm 0 hT ?_ | refine qbm 0 (qj0 (r := ⟨p.2.s, p.2.lv, false⟩) hc) ?_) <;> (try refine ev_ ?_)) | with_reducible exact ti_)

def Suf (r : Rd) (k : Nat) (p : Ty × Rd) : Prop := (∃ j, p.2.s = r.s.drop j) ∧ p.2.lv = r.lv ∧ p.1.args.length + p.2.s.length ≤ k + r.s.length
theorem qeh {r r1 : Rd} {k : Nat} {p : Ty × Rd} (h : (∃ j, r1.s = r.s.drop j) ∧ r1.lv = r.lv) (hp : Suf r1 k p) {k' : Nat} (hl : k + r1.s.length ≤ k' + r.s.length) : Suf r k' p := by
 obtain ⟨⟨j, h1⟩, h2⟩ := h
 obtain ⟨⟨i, h3⟩, h4, h5⟩ := hp
 exact ⟨⟨j + i, by rw [h3, h1, List.drop_drop]⟩, h4.trans h2, by omega⟩
theorem qnk (s : List UInt8) : (qin s).args = [] := by
 unfold qin
 split
 ·rfl
 split
 ·split <;> rfl
 ·rfl
theorem qtv (r : Rd) : Suf r 0 (qil r) := ⟨⟨qdk r.s, rfl⟩, rfl, by simp [qil, qnk, badR, cutR]⟩
theorem qdz (k : Nat) (r : Rd) : (cutR k r).s.length = r.s.length - k := by simp [cutR]
theorem qd5 {p s : List UInt8} (h : pfx p s = true) : p.length ≤ s.length := by
 simp only [pfx, decide_eq_true_eq] at h
 have := congrArg List.length h
 rw [List.length_take] at this
 omega
theorem qzf {r : Rd} {p : Ty × Rd} (h : Suf r 0 p) : Suf r 0 (endA p) := by
 obtain ⟨⟨j, h1⟩, h2, h3⟩ := h
 unfold endA
 repeat' split
 ·exact ⟨⟨j, h1⟩, h2, h3⟩
 ·refine ⟨⟨j + 1, by rw [cutR, h1, List.drop_drop]⟩, h2, ?_⟩
  rw [qdz]; dsimp only; omega
 ·exact ⟨⟨j, h1⟩, h2, h3⟩
theorem qzh : ∀ n, (∀ r, Suf r 0 (qb0 n r) ∨ n = 0) ∧ (∀ r, Suf r 0 (qcv n r) ∨ n = 0) ∧ (∀ t r, Suf r t.args.length (qg3 n t r)) ∧ (∀ p k (r : Rd), Suf r k p → Suf (lvR (r.lv - 1) r) k (qpd n p)) := by
 intro n
 induction n with
 | zero =>
   refine ⟨fun r => .inr rfl, fun r => .inr rfl, fun t r => ?_, fun p k r h => ?_⟩
   ·rw [qg3]; exact ⟨⟨0, rfl⟩, rfl, Nat.le_refl _⟩
   ·rw [qpd]; obtain ⟨h1, h2, h3⟩ := h; exact ⟨h1, by show p.2.lv - 1 = r.lv - 1; rw [h2], h3⟩
 | succ n ih =>
   obtain ⟨iA, iT, iM, iL⟩ := ih
   have hA0 : ∀ r, Suf r 0 (qb0 n r) := fun r => by
    rcases iA r with h | rfl
    ·exact h
    ·rw [qb0]; exact ⟨⟨0, rfl⟩, rfl, by show ([] : List Ty).length + _ ≤ _; simp⟩
   have hT0 : ∀ r, Suf r 0 (qcv n r) := fun r => by
    rcases iT r with h | rfl
    ·exact h
    ·rw [qcv]; exact ⟨⟨0, rfl⟩, rfl, by show ([] : List Ty).length + _ ≤ _; simp⟩
   refine ⟨fun r => .inl ?_, fun r => .inl ?_, fun t r => ?_, fun p k r h => ?_⟩
   ·rw [qb0]
    split
    ·have h0 : (∃ j, (cutR 1 r).s = r.s.drop j) ∧ (cutR 1 r).lv = r.lv := ⟨⟨1, rfl⟩, rfl⟩
     exact qzf (qeh h0 (hT0 (cutR 1 r)) (by rw [qdz]; omega))
    ·exact qtv r
   ·rw [qcv]
    split
    ·exact ⟨⟨0, rfl⟩, rfl, by show ([] : List Ty).length + _ ≤ _; simp [badR]⟩
    ·have h1 := hA0 (lvR (r.lv + 1) r)
     have h2 := iM (qb0 n (lvR (r.lv + 1) r)).1 (qb0 n (lvR (r.lv + 1) r)).2
     have h3 : Suf (lvR (r.lv + 1) r) 0 (qg3 n (qb0 n (lvR (r.lv + 1) r)).1 (qb0 n (lvR (r.lv + 1) r)).2) := by
      refine qeh ⟨h1.1, h1.2.1⟩ h2 h1.2.2
     have h4 := iL _ 0 _ h3
     obtain ⟨⟨j, q1⟩, q2, q3⟩ := h4
     refine ⟨⟨j, q1⟩, ?_, q3⟩
     rw [q2]
     show r.lv + 1 - 1 = r.lv
     omega
   ·rw [qg3]
    split
    ·rename_i hc
     have hl := qd5 hc.2.2
     simp only [List.length_cons, List.length_nil] at hl
     have h1 := hA0 (cutR 1 r)
     have h2 := iM (.mk t.con t.var (t.args ++ [(qb0 n (cutR 1 r)).1])) (qb0 n (cutR 1 r)).2
     obtain ⟨⟨j, q1⟩, q2, q3⟩ := h1
     rw [qdz] at q3
     have h0 : (∃ j, (qb0 n (cutR 1 r)).2.s = r.s.drop j) ∧ (qb0 n (cutR 1 r)).2.lv = r.lv := ⟨⟨1 + j, by rw [q1, cutR, List.drop_drop]⟩, q2⟩
     refine qeh h0 h2 ?_
     show (t.args ++ [(qb0 n (cutR 1 r)).1]).length + _ ≤ _
     rw [List.length_append, List.length_singleton]
     omega
    ·exact ⟨⟨0, rfl⟩, rfl, Nat.le_refl _⟩
   ·rw [qpd]
    obtain ⟨⟨j, h1⟩, h2, h3⟩ := h
    split
    ·rename_i hc
     have hl := qd5 hc.2
     simp only [arrS, List.length_cons, List.length_nil] at hl
     obtain ⟨⟨i, q1⟩, q2, q3⟩ := hT0 (cutR 4 p.2)
     rw [qdz] at q3
     refine ⟨⟨j + 4 + i, ?_⟩, ?_, ?_⟩
     ·show (qcv n (cutR 4 p.2)).2.s = _
      rw [q1, cutR, h1, List.drop_drop, List.drop_drop, ← Nat.add_assoc]; rfl
     ·show (qcv n (cutR 4 p.2)).2.lv - 1 = r.lv - 1
      rw [q2]; show p.2.lv - 1 = _; rw [h2]
     ·show 2 + (qcv n (cutR 4 p.2)).2.s.length ≤ k + r.s.length
      omega
    ·exact ⟨⟨j, h1⟩, by show p.2.lv - 1 = r.lv - 1; rw [h2], h3⟩
theorem ql7 {n : Nat} (hn : n ≠ 0) (r : Rd) : Suf r 0 (qb0 n r) := ((qzh n).1 r).resolve_right hn
theorem qtg {n : Nat} (hn : n ≠ 0) (r : Rd) : Suf r 0 (qcv n r) := ((qzh n).2.1 r).resolve_right hn
theorem qu9 (n : Nat) (t : Ty) (r : Rd) : Suf r t.args.length (qg3 n t r) := (qzh n).2.2.1 t r
theorem q7a {r : Rd} {k : Nat} {p : Ty × Rd} (h : Suf r k p) (hk : ascS r.s) : ascS p.2.s := by obtain ⟨⟨j, h1⟩, _⟩ := h; rw [h1]; exact qb8 hk j
end Go.Proofs.Ytlahgbhhejkgbaa
