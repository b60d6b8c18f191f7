/- Texts of this proof, joined. -/
import Derived.Test.YtfpobiheiloamaaKbd
import Derived.Test.YtfpobiheiloamaaKat
import Derived.Test.YtfpobiheiloamaaKbb

/- the reader of terms: copies of rows, what is taken, atoms -/
set_option maxRecDepth 4000
namespace Go.Proofs.Ytfpobiheiloamaa
open Go Go.RowKit Go.V
set_option linter.unusedVariables false
set_option linter.unusedSimpArgs false

theorem qec (s : List UInt8) : qj Try.prog 154 [.str s] (encY (qkr s)) := by
 refine qe c0ci (by simp) (by simp only [go_sem]) (qbg 0 _) fun hw => ?_
 have hr := qhu (s.drop 1)
 cases hp : pfx [63] s with
 | false =>
   repeat' (first | refine vs_ ?_ | ((first | refine vr_ ?_ | fail) <;> (try simp only [hp, go_sem, ↓reduceIte])) | ((first | (refine cs_ ?_ ?_ <;> intro hc) | refine cj_ ?_ | fail | refine qa (qge _) fun _ => ?_ | refine qa (qg _ _) fun _ => ?_) <;> (try refine ev_ ?_)) | with_reducible exact ti_)
   ·rw [qkr, if_pos (by assumption)]; rfl
   ·rw [qkr, if_neg (by assumption), hp]; rfl
 | true =>
   have hl := qr2 hp
   repeat' (first | refine vs_ ?_ | ((first | refine vr_ ?_ | fail) <;> (try simp only [hp, go_sem, ↓reduceIte])) | ((first | (refine cs_ ?_ ?_ <;> intro hc) | refine cj_ ?_ | fail | refine qa (qge _) fun _ => ?_ | refine qa (qg _ _) fun _ => ?_ | refine qa (qfl _) fun _ => ?_) <;> (try refine ev_ ?_)) | with_reducible exact ti_)
   ·rw [qkr, if_pos (by assumption)]; rfl
   ·rw [qkr, if_neg (by assumption), if_pos (by assumption), if_pos (by assumption), q6 (by omega) (by omega)]; rfl
   ·rw [qkr, if_neg (by assumption), if_pos (by assumption), if_neg (by assumption)]; rfl

/-! a copy of a row -/
abbrev qpd : FuncId := 151
theorem qsa : VCalls Try.prog qpd [] [.sl 3 (qi [])] fun H' o => H' = [] ∧ o = .val (.lit 3 []) := by
 refine qp5 (k := 3) (Q' := fun H' o => H' = [] ∧ (o = .val (.lit 3 []) ∨ o = .val .nils)) ?_ fun H' o h => ?_
 ·refine qi7 c0cj 0 (by simp) (by simp) ?_
  unfold k0cj
  refine qb3 (qef ?_)
  (refine ev_ ?_; (try with_reducible exact ti_))
  refine qb3 (qb3 (qtc (l := [⟨none, some 3, .v (.mov (.t 0))⟩]) (t := 4) (x := .t 3) ?_))
  (refine ev_ ?_; (try with_reducible exact ti_))
  refine ⟨3, qi [], rfl, fun b hb => ?_⟩
  cases b
  ·repeat' (first | refine vs_ ?_ | ((first | refine vr_ ?_ | (refine cs_ ?_ ?_ <;> intro hc) | refine cj_ ?_ | fail) <;> (try refine ev_ ?_)) | with_reducible exact ti_)
  ·repeat' (first | refine vs_ ?_ | ((first | refine vr_ ?_ | (refine cs_ ?_ ?_ <;> intro hc) | refine cj_ ?_ | fail) <;> (try refine ev_ ?_)) | with_reducible exact ti_)
 ·rcases h with ⟨h, h1 | h1⟩
  ·exact .inl ⟨h, h1⟩
  ·exact .inr ⟨h1, h, rfl⟩
theorem qtw {l : List Ty} (h0 : l ≠ []) (hl : l.length ≤ 4294967296) : VCalls Try.prog qpd [] [.sl 3 (qi l)] fun H' o => H' = [.app 3 (qi l)] ∧ o = .val (.row 0 l.length) := by
 refine qi7 c0cj 1 (by simp) (by simp) ?_
 unfold k0cj
 refine qb3 (qef ?_)
 (refine ev_ ?_; (try with_reducible exact ti_))
 refine qb3 (qb3 (qtc (l := [⟨none, some 3, .v (.mov (.t 0))⟩]) (t := 4) (x := .t 3) ?_))
 (refine ev_ ?_; (try with_reducible exact ti_))
 refine ⟨3, qi l, rfl, fun b hb => ?_⟩
 have hcap : qc1 l.length 48 = True := eq_true (by unfold qc1; omega)
 have hln : (qi l).length ≠ 0 := by rw [qbb]; exact fun h => h0 (List.length_eq_zero_iff.1 h)
 have hln2 : ¬ l.length = 0 := fun h => h0 (List.length_eq_zero_iff.1 h)
 cases b
 ·repeat' (first | refine vs_ ?_ | ((first | refine vr_ ?_ | fail) <;> (try simp only [hln2, hcap, Nat.zero_add, go_sem, ↓reduceIte])) | ((first | (refine cs_ ?_ ?_ <;> intro hc) | refine cj_ ?_ | fail) <;> (try refine ev_ ?_)) | with_reducible exact ti_)
 ·exact absurd (hb rfl) (fun h => hln (by rw [h]; rfl))
section
variable {l : List Ty} {H : List Ent} {args raws : List AV} {K : Md → AV → List Ent → Prop}
theorem qvz (hl : l = []) (hq : K .here (.lit 3 []) H) (ha : args = [.sl 3 (qi l)] := by rfl) : DApp Try.prog H (.fn qpd [] []) args raws K := by
 subst hl
 subst ha
 refine .inl ⟨_, qcy ?_, hq⟩
 rw [List.nil_append, List.append_nil]
 refine qbz [] qsa (by simp) trivial (by simp [AV.bds, AV.bd, qb7]) (by simp only [AV.rens, AV.ren, qd5]) fun H1 o ho => ?_
 obtain ⟨rfl, rfl⟩ := ho
 exact ⟨by simp [qir, qz], rfl⟩
theorem qwz (h0 : l ≠ []) (hl : l.length ≤ 4294967296) (hq : K (.grow none (.app 3 (qi l)) l.length) (.row H.length l.length) (H ++ [.app 3 (qi l)])) (hr : raws = [.sl 3 (qi l)] := by rfl) : DApp Try.prog H (.fn qpd [] []) args raws K := by
 subst hr
 refine .inr (.inr (.inr ⟨none, .app 3 (qi l), l.length, ⟨fun q hq => (by cases hq), fun H₀ h0' => ?_⟩, hq⟩))
 refine qcy ?_
 rw [List.nil_append, List.append_nil]
 refine qbz [] (qtw h0 hl) (by simp) trivial (by simp [AV.bds, AV.bd, qb7]) (by simp only [AV.rens, AV.ren, qd5]) fun H1 o ho => ?_
 obtain ⟨rfl, rfl⟩ := ho
 refine ⟨?_, ?_⟩
 ·show H₀ ++ [(Ent.app 3 (qi l)).ren _] = H₀ ++ [_]
  rw [Ent.ren, qd5]
 ·show VO.val (.row (H₀.length + (0 - 0)) _) = _
  simp
end
/-! the reader -/
def rdE (r : Rd) : Ent := .blk [.str r.s, .int .i64 r.lv, .bool r.bad]
attribute [go_sem] rdE cutR badR lvR
theorem q3w {p s : List UInt8} (h : pfx p s = true) : p.length ≤ s.length := by
 simp only [pfx, decide_eq_true_eq] at h
 have := congrArg List.length h
 rw [List.length_take] at this
 omega
theorem qji {r : Rd} {p : List UInt8} (h : pfx p r.s = true) : VM Try.prog 150 (rdE r) (rdE (cutR p.length r)) [.ptr 0 0, .str p] (.bool true) := by
 refine ql c0ck 1 (by simp) (by simp) ?_
 have hl := q3w h
 repeat' (first | refine vs_ ?_ | ((first | refine vr_ ?_ | fail) <;> (try simp only [h, go_sem, ↓reduceIte])) | ((first | (refine cs_ ?_ ?_ <;> intro hc) | refine cj_ ?_ | fail | refine qa (qg _ _) fun _ => ?_) <;> (try refine ev_ ?_)) | with_reducible exact ti_)
theorem qmk {r : Rd} {p : List UInt8} (h : pfx p r.s = false) : VM Try.prog 150 (rdE r) (rdE r) [.ptr 0 0, .str p] (.bool false) := by
 refine ql c0ck 1 (by simp) (by simp) ?_
 repeat' (first | refine vs_ ?_ | ((first | refine vr_ ?_ | fail) <;> (try simp only [h, go_sem, ↓reduceIte])) | ((first | (refine cs_ ?_ ?_ <;> intro hc) | refine cj_ ?_ | fail | refine qa (qg _ _) fun _ => ?_) <;> (try refine ev_ ?_)) | with_reducible exact ti_)
set_option maxRecDepth 4000

theorem qom : ∀ {H : List Ent} {i : Nat}, H.length ≤ i → ent H i = .dead
 | [], _, _ => rfl
 | _ :: _, 0, h => absurd h (by simp)
 | _ :: H, i + 1, h => qom (H := H) (i := i) (by simpa using h)
section
variable {P : Program} {f : FuncId} {e e' : Ent} {aa args caps rs : List AV} {r : AV} {H : List Ent} {Kk : Md → AV → List Ent → Prop}
theorem qzk (i : Nat) (h : VM P f e e' aa r) (hq : Kk (.meth i e e') r (H.set i e')) (hn : e ≠ .dead := by intro h; cases h) (hb : e.bd 0 = true := by rfl) (hb' : e'.bd 0 = true := by rfl) (he : ent H i = e := by rfl) (hr : r.bd 0 = true := by first | rfl | simp [go_sem])
 (e1 : args ++ caps = AV.rens (sg [i]) aa := by first | rfl | (simp only [go_sem]; rfl) | (simp [go_sem, sg, AV.rens, AV.ren]; done)) (ha : AV.bds 1 aa = true := by first | rfl | (simp only [go_sem]; done) | simp [go_sem, AV.bds, AV.bd]) : DApp P H (.fn f [] caps) args rs Kk :=
 .inr (.inr (.inl ⟨r, i, e, e', ⟨hn, he, fun H₀ h0 => qbn i h ⟨rfl, rfl⟩ hb hb' (by
  rcases Nat.lt_or_ge i H₀.length with h1 | h1
  ·exact h1
  ·exact absurd (h0.symm.trans (qom h1)) hn) h0 hr e1 ha⟩, hq⟩))
end
theorem qib {H L : List Ent} {K : List Ent → Prop} {r : Rd} (h0 : -1 ≤ r.lv) (h1 : r.lv ≤ 1000) (hH : H = rdE r :: .blk [.ptr 0 0] :: L) (hq : K (rdE (lvR (r.lv - 1) r) :: .blk [.ptr 0 0] :: L)) : dlqD Try.prog [.dfr (.fn 148 [] [.ptr 1 0]) []] H K := by
 subst hH
 refine ⟨_, [], [.ptr 1 0], rfl, qbby c0cg (by simp) ?_⟩
 have hw : IntKind.i64.wrap (r.lv - 1) = r.lv - 1 := q6 (by omega) (by omega)
 repeat' (first | refine vs_ ?_ | ((first | refine vr_ ?_ | fail) <;> (try simp only [hw, go_sem, ↓reduceIte])) | ((first | (refine cs_ ?_ ?_ <;> intro hc) | refine cj_ ?_ | fail) <;> (try refine ev_ ?_)) | with_reducible exact ti_)
 exact ⟨rfl, hq⟩

theorem qut {n : Nat} {r : Rd} (hp : pfx [40] r.s = false) (hk : ascS r.s) : VM Try.prog 149 (rdE r) (rdE (qkv r).2) [.ptr 0 0] (encY (qkv r).1) := by
 refine ql c0ch 1 (by simp) (by simp) ?_
 have hx := qgr hk
 have hw := qow r.s
 by_cases hl : qd9 r.s < r.s.length
 ·rw [qg2, if_pos hl] at hx
  repeat' (first | refine vs_ ?_ | ((first | refine vr_ ?_ | refine qbn 0 (qmk hp) ?_ | refine qa hx fun _ => ?_ | refine qa (qec _) fun _ => ?_ | refine qd hx ?_ | refine qd (qec _) ?_ | (refine cs_ ?_ ?_ <;> intro hc) | refine cj_ ?_ | fail) <;> (try refine ev_ ?_)) | with_reducible exact ti_)
  all_goals first | (exfalso; omega) | (simp [qkv, badR, cutR, *]; done) | (have hl2 : qd9 r.s = r.s.length := (by omega); simp [qkv, badR, cutR, *]; done)
 ·rw [qg2, if_neg hl] at hx
  repeat' (first | refine vs_ ?_ | ((first | refine vr_ ?_ | refine qbn 0 (qmk hp) ?_ | refine qa hx fun _ => ?_ | refine qa (qec _) fun _ => ?_ | refine qd hx ?_ | refine qd (qec _) ?_ | (refine cs_ ?_ ?_ <;> intro hc) | refine cj_ ?_ | fail) <;> (try refine ev_ ?_)) | with_reducible exact ti_)
  all_goals first | (exfalso; omega) | (simp [qkv, badR, cutR, *]; done) | (have hl2 : qd9 r.s = r.s.length := (by omega); simp [qkv, badR, cutR, *]; done)
theorem qwj {r : Rd} {p : Ty × Rd} (hp : pfx [40] r.s = true) (hT : VM Try.prog 138 (rdE (cutR 1 r)) (rdE p.2) [.ptr 0 0] (encY p.1)) : VM Try.prog 149 (rdE r) (rdE (endA p).2) [.ptr 0 0] (encY (endA p).1) := by
 refine ql c0ch 1 (by simp) (by simp) ?_
 cases hb : p.2.bad with
 | true =>
   rw [endA, if_pos hb]
   repeat' (first | refine vs_ ?_ | ((first | refine vr_ ?_ | fail) <;> (try simp only [hb, go_sem, ↓reduceIte])) | ((first | (refine cs_ ?_ ?_ <;> intro hc) | refine cj_ ?_ | fail | refine qbn 0 (qji hp) ?_ | refine qbn 0 hT ?_) <;> (try refine ev_ ?_)) | with_reducible exact ti_)
 | false =>
   cases hc : pfx [41] p.2.s with
   | true =>
     rw [endA, if_neg (by simp [hb]), if_pos hc]
     repeat' (first | refine vs_ ?_ | ((first | refine vr_ ?_ | fail) <;> (try simp only [hb, go_sem, ↓reduceIte])) | ((first | (refine cs_ ?_ ?_ <;> intro hc) | refine cj_ ?_ | fail | refine qbn 0 (qji hp) ?_ | refine qbn 0 hT ?_ | refine qbn 0 (qji (r := ⟨p.2.s, p.2.lv, false⟩) hc) ?_) <;> (try refine ev_ ?_)) | with_reducible exact ti_)
   | false =>
     rw [endA, if_neg (by simp [hb]), if_neg (by simp [hc])]
     repeat' (first | refine vs_ ?_ | ((first | refine vr_ ?_ | fail) <;> (try simp only [hb, go_sem, ↓reduceIte])) | ((first | (refine cs_ ?_ ?_ <;> intro hc) | refine cj_ ?_ | fail | refine qbn 0 (qji hp) ?_ | refine qbn 0 hT ?_ | refine qbn 0 (qmk (r := ⟨p.2.s, p.2.lv, false⟩) hc) ?_) <;> (try refine ev_ ?_)) | with_reducible exact ti_)

/-! a receiver: there, or none -/
/-! runs of it -/
set_option maxRecDepth 4000

theorem qk3 {f : FuncId} {args : List AV} {r r' : AV} (h : qj Try.prog f args r) (e : r = r') : qj Try.prog f args r' := e ▸ h
end Go.Proofs.Ytfpobiheiloamaa
