/- Texts of this proof, joined. -/
import Derived.Test.YtfpobiheiloamaaJbe
import Derived.Test.YtfpobiheiloamaaJau

/- the reader of terms: copies of rows, what is taken, atoms -/
set_option maxRecDepth 4000
namespace Go.Proofs.Ytfpobiheiloamaa
open Go Go.RowKit Go.V
set_option linter.unusedVariables false
set_option linter.unusedSimpArgs false

theorem qec (s : List UInt8) : qm Try.prog 154 [.str s] (encY (qkq s)) := by
 refine qf c0cf (by simp) (by simp only [go_sem]) (qbe 0 _) fun hw => ?_
 have hr := qin (s.drop 1)
 cases hp : pfx [63] s with
 | false =>
   repeat' (first | refine vs_ ?_ | ((first | refine vr_ ?_ | fail) <;> (try simp only [hp, go_sem, ↓reduceIte])) | ((first | (refine cs_ ?_ ?_ <;> intro hc) | refine cj_ ?_ | fail | refine qa (qgt _) fun _ => ?_ | refine qa (qh _ _) fun _ => ?_) <;> (try refine ev_ ?_)) | with_reducible exact ti_)
   ·rw [qkq, if_pos (by assumption)]; rfl
   ·rw [qkq, if_neg (by assumption), hp]; rfl
 | true =>
   have hl := qt2 hp
   repeat' (first | refine vs_ ?_ | ((first | refine vr_ ?_ | fail) <;> (try simp only [hp, go_sem, ↓reduceIte])) | ((first | (refine cs_ ?_ ?_ <;> intro hc) | refine cj_ ?_ | fail | refine qa (qgt _) fun _ => ?_ | refine qa (qh _ _) fun _ => ?_ | refine qa (qfj _) fun _ => ?_) <;> (try refine ev_ ?_)) | with_reducible exact ti_)
   ·rw [qkq, if_pos (by assumption)]; rfl
   ·rw [qkq, if_neg (by assumption), if_pos (by assumption), if_pos (by assumption), qw (by omega) (by omega)]; rfl
   ·rw [qkq, if_neg (by assumption), if_pos (by assumption), if_neg (by assumption)]; rfl

/-! a copy of a row -/
abbrev qpk : FuncId := 151
theorem qvw : VCalls Try.prog qpk [] [.sl 3 (qp [])] fun H' o => H' = [] ∧ o = .val (.lit 3 []) := by
 refine qrv (k := 3) (Q' := fun H' o => H' = [] ∧ (o = .val (.lit 3 []) ∨ o = .val .nils)) ?_ fun H' o h => ?_
 ·refine qjj c0cg 0 (by simp) (by simp) ?_
  unfold k0cg
  refine qbx (qeh ?_)
  (refine ev_ ?_; (try with_reducible exact ti_))
  refine qbx (qbx (qvx (l := [⟨none, some 3, .v (.mov (.t 0))⟩]) (t := 4) (x := .t 3) ?_))
  (refine ev_ ?_; (try with_reducible exact ti_))
  refine ⟨3, qp [], rfl, fun b hb => ?_⟩
  cases b
  ·repeat' (first | refine vs_ ?_ | ((first | refine vr_ ?_ | (refine cs_ ?_ ?_ <;> intro hc) | refine cj_ ?_ | fail) <;> (try refine ev_ ?_)) | with_reducible exact ti_)
  ·repeat' (first | refine vs_ ?_ | ((first | refine vr_ ?_ | (refine cs_ ?_ ?_ <;> intro hc) | refine cj_ ?_ | fail) <;> (try refine ev_ ?_)) | with_reducible exact ti_)
 ·rcases h with ⟨h, h1 | h1⟩
  ·exact .inl ⟨h, h1⟩
  ·exact .inr ⟨h1, h, rfl⟩
theorem quf {l : List Ty} (h0 : l ≠ []) (hl : l.length ≤ 4294967296) : VCalls Try.prog qpk [] [.sl 3 (qp l)] fun H' o => H' = [.app 3 (qp l)] ∧ o = .val (.row 0 l.length) := by
 refine qjj c0cg 1 (by simp) (by simp) ?_
 unfold k0cg
 refine qbx (qeh ?_)
 (refine ev_ ?_; (try with_reducible exact ti_))
 refine qbx (qbx (qvx (l := [⟨none, some 3, .v (.mov (.t 0))⟩]) (t := 4) (x := .t 3) ?_))
 (refine ev_ ?_; (try with_reducible exact ti_))
 refine ⟨3, qp l, rfl, fun b hb => ?_⟩
 have hcap : qfv l.length 48 = True := eq_true (by unfold qfv; omega)
 have hln : (qp l).length ≠ 0 := by rw [qbg]; exact fun h => h0 (List.length_eq_zero_iff.1 h)
 have hln2 : ¬ l.length = 0 := fun h => h0 (List.length_eq_zero_iff.1 h)
 cases b
 ·repeat' (first | refine vs_ ?_ | ((first | refine vr_ ?_ | fail) <;> (try simp only [hln2, hcap, Nat.zero_add, go_sem, ↓reduceIte])) | ((first | (refine cs_ ?_ ?_ <;> intro hc) | refine cj_ ?_ | fail) <;> (try refine ev_ ?_)) | with_reducible exact ti_)
 ·exact absurd (hb rfl) (fun h => hln (by rw [h]; rfl))
section
variable {l : List Ty} {H : List Ent} {args raws : List AV} {K : Md → AV → List Ent → Prop}
theorem qxb (hl : l = []) (hq : K .here (.lit 3 []) H) (ha : args = [.sl 3 (qp l)] := by rfl) : DApp Try.prog H (.fn qpk [] []) args raws K := by
 subst hl
 subst ha
 refine .inl ⟨_, qco ?_, hq⟩
 rw [List.nil_append, List.append_nil]
 refine qbs [] qvw (by simp) trivial (by simp [AV.bds, AV.bd, qb2]) (by simp only [AV.rens, AV.ren, qft]) fun H1 o ho => ?_
 obtain ⟨rfl, rfl⟩ := ho
 exact ⟨by simp [qih, qz], rfl⟩
theorem qy4 (h0 : l ≠ []) (hl : l.length ≤ 4294967296) (hq : K (.grow none (.app 3 (qp l)) l.length) (.row H.length l.length) (H ++ [.app 3 (qp l)])) (hr : raws = [.sl 3 (qp l)] := by rfl) : DApp Try.prog H (.fn qpk [] []) args raws K := by
 subst hr
 refine .inr (.inr (.inr ⟨none, .app 3 (qp l), l.length, ⟨fun q hq => (by cases hq), fun H₀ h0' => ?_⟩, hq⟩))
 refine qco ?_
 rw [List.nil_append, List.append_nil]
 refine qbs [] (quf h0 hl) (by simp) trivial (by simp [AV.bds, AV.bd, qb2]) (by simp only [AV.rens, AV.ren, qft]) fun H1 o ho => ?_
 obtain ⟨rfl, rfl⟩ := ho
 refine ⟨?_, ?_⟩
 ·show H₀ ++ [(Ent.app 3 (qp l)).ren _] = H₀ ++ [_]
  rw [Ent.ren, qft]
 ·show VO.val (.row (H₀.length + (0 - 0)) _) = _
  simp
end
/-! the reader -/
def rdE (r : Rd) : Ent := .blk [.str r.s, .int .i64 r.lv, .bool r.bad]
attribute [go_sem] rdE cutR badR lvR
theorem qbao {p s : List UInt8} (h : pfx p s = true) : p.length ≤ s.length := by
 simp only [pfx, decide_eq_true_eq] at h
 have := congrArg List.length h
 rw [List.length_take] at this
 omega
theorem qje {r : Rd} {p : List UInt8} (h : pfx p r.s = true) : VM Try.prog 150 (rdE r) (rdE (cutR p.length r)) [.ptr 0 0, .str p] (.bool true) := by
 refine qg c0ch 1 (by simp) (by simp) ?_
 have hl := qbao h
 repeat' (first | refine vs_ ?_ | ((first | refine vr_ ?_ | fail) <;> (try simp only [h, go_sem, ↓reduceIte])) | ((first | (refine cs_ ?_ ?_ <;> intro hc) | refine cj_ ?_ | fail | refine qa (qh _ _) fun _ => ?_) <;> (try refine ev_ ?_)) | with_reducible exact ti_)
theorem qmn {r : Rd} {p : List UInt8} (h : pfx p r.s = false) : VM Try.prog 150 (rdE r) (rdE r) [.ptr 0 0, .str p] (.bool false) := by
 refine qg c0ch 1 (by simp) (by simp) ?_
 repeat' (first | refine vs_ ?_ | ((first | refine vr_ ?_ | fail) <;> (try simp only [h, go_sem, ↓reduceIte])) | ((first | (refine cs_ ?_ ?_ <;> intro hc) | refine cj_ ?_ | fail | refine qa (qh _ _) fun _ => ?_) <;> (try refine ev_ ?_)) | with_reducible exact ti_)
set_option maxRecDepth 4000

theorem qpu : ∀ {H : List Ent} {i : Nat}, H.length ≤ i → ent H i = .dead
 | [], _, _ => rfl
 | _ :: _, 0, h => absurd h (by simp)
 | _ :: H, i + 1, h => qpu (H := H) (i := i) (by simpa using h)
section
variable {P : Program} {f : FuncId} {e e' : Ent} {aa args caps rs : List AV} {r : AV} {H : List Ent} {Kk : Md → AV → List Ent → Prop}
theorem qxr (i : Nat) (h : VM P f e e' aa r) (hq : Kk (.meth i e e') r (H.set i e')) (hn : e ≠ .dead := by intro h; cases h) (hb : e.bd 0 = true := by rfl) (hb' : e'.bd 0 = true := by rfl) (he : ent H i = e := by rfl) (hr : r.bd 0 = true := by first | rfl | simp [go_sem])
 (e1 : args ++ caps = AV.rens (sg [i]) aa := by first | rfl | (simp only [go_sem]; rfl) | (simp [go_sem, sg, AV.rens, AV.ren]; done)) (ha : AV.bds 1 aa = true := by first | rfl | (simp only [go_sem]; done) | simp [go_sem, AV.bds, AV.bd]) : DApp P H (.fn f [] caps) args rs Kk :=
 .inr (.inr (.inl ⟨r, i, e, e', ⟨hn, he, fun H₀ h0 => qbi i h ⟨rfl, rfl⟩ hb hb' (by
  rcases Nat.lt_or_ge i H₀.length with h1 | h1
  ·exact h1
  ·exact absurd (h0.symm.trans (qpu h1)) hn) h0 hr e1 ha⟩, hq⟩))
end
theorem qib {H L : List Ent} {K : List Ent → Prop} {r : Rd} (h0 : -1 ≤ r.lv) (h1 : r.lv ≤ 1000) (hH : H = rdE r :: .blk [.ptr 0 0] :: L) (hq : K (rdE (lvR (r.lv - 1) r) :: .blk [.ptr 0 0] :: L)) : dlqD Try.prog [.dfr (.fn 148 [] [.ptr 1 0]) []] H K := by
 subst hH
 refine ⟨_, [], [.ptr 1 0], rfl, q02 c0cd (by simp) ?_⟩
 have hw : IntKind.i64.wrap (r.lv - 1) = r.lv - 1 := qw (by omega) (by omega)
 repeat' (first | refine vs_ ?_ | ((first | refine vr_ ?_ | fail) <;> (try simp only [hw, go_sem, ↓reduceIte])) | ((first | (refine cs_ ?_ ?_ <;> intro hc) | refine cj_ ?_ | fail) <;> (try refine ev_ ?_)) | with_reducible exact ti_)
 exact ⟨rfl, hq⟩

theorem qs6 {n : Nat} {r : Rd} (hp : pfx [40] r.s = false) (hk : ascS r.s) : VM Try.prog 149 (rdE r) (rdE (qke r).2) [.ptr 0 0] (encY (qke r).1) := by
 refine qg c0ce 1 (by simp) (by simp) ?_
 have hx := qgx hk
 have hw := qom r.s
 by_cases hl : qd3 r.s < r.s.length
 ·rw [qg6, if_pos hl] at hx
  repeat' (first | refine vs_ ?_ | ((first | refine vr_ ?_ | refine qbi 0 (qmn hp) ?_ | refine qa hx fun _ => ?_ | refine qa (qec _) fun _ => ?_ | refine qd hx ?_ | refine qd (qec _) ?_ | (refine cs_ ?_ ?_ <;> intro hc) | refine cj_ ?_ | fail) <;> (try refine ev_ ?_)) | with_reducible exact ti_)
  all_goals first | (exfalso; omega) | (simp [qke, badR, cutR, *]; done) | (have hl2 : qd3 r.s = r.s.length := (by omega); simp [qke, badR, cutR, *]; done)
 ·rw [qg6, if_neg hl] at hx
  repeat' (first | refine vs_ ?_ | ((first | refine vr_ ?_ | refine qbi 0 (qmn hp) ?_ | refine qa hx fun _ => ?_ | refine qa (qec _) fun _ => ?_ | refine qd hx ?_ | refine qd (qec _) ?_ | (refine cs_ ?_ ?_ <;> intro hc) | refine cj_ ?_ | fail) <;> (try refine ev_ ?_)) | with_reducible exact ti_)
  all_goals first | (exfalso; omega) | (simp [qke, badR, cutR, *]; done) | (have hl2 : qd3 r.s = r.s.length := (by omega); simp [qke, badR, cutR, *]; done)
theorem qzj {r : Rd} {p : Ty × Rd} (hp : pfx [40] r.s = true) (hT : VM Try.prog 138 (rdE (cutR 1 r)) (rdE p.2) [.ptr 0 0] (encY p.1)) : VM Try.prog 149 (rdE r) (rdE (endA p).2) [.ptr 0 0] (encY (endA p).1) := by
 refine qg c0ce 1 (by simp) (by simp) ?_
 cases hb : p.2.bad with
 | true =>
   rw [endA, if_pos hb]
   repeat' (first | refine vs_ ?_ | ((first | refine vr_ ?_ | fail) <;> (try simp only [hb, go_sem, ↓reduceIte])) | ((first | (refine cs_ ?_ ?_ <;> intro hc) | refine cj_ ?_ | fail | refine qbi 0 (qje hp) ?_ | refine qbi 0 hT ?_) <;> (try refine ev_ ?_)) | with_reducible exact ti_)
 | false =>
   cases hc : pfx [41] p.2.s with
   | true =>
     rw [endA, if_neg (by simp [hb]), if_pos hc]
     repeat' (first | refine vs_ ?_ | ((first | refine vr_ ?_ | fail) <;> (try simp only [hb, go_sem, ↓reduceIte])) | ((first | (refine cs_ ?_ ?_ <;> intro hc) | refine cj_ ?_ | fail | refine qbi 0 (qje hp) ?_ | refine qbi 0 hT ?_ | refine qbi 0 (qje (r := ⟨p.2.s, p.2.lv, false⟩) hc) ?_) <;> (try refine ev_ ?_)) | with_reducible exact ti_)
   | false =>
     rw [endA, if_neg (by simp [hb]), if_neg (by simp [hc])]
     repeat' (first | refine vs_ ?_ | ((first | refine vr_ ?_ | fail) <;> (try simp only [hb, go_sem, ↓reduceIte])) | ((first | (refine cs_ ?_ ?_ <;> intro hc) | refine cj_ ?_ | fail | refine qbi 0 (qje hp) ?_ | refine qbi 0 hT ?_ | refine qbi 0 (qmn (r := ⟨p.2.s, p.2.lv, false⟩) hc) ?_) <;> (try refine ev_ ?_)) | with_reducible exact ti_)
end Go.Proofs.Ytfpobiheiloamaa
