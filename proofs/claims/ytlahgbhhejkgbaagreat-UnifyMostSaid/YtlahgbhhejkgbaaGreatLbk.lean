/- Texts of this proof, joined. -/
import Derived.Test.YtlahgbhhejkgbaaGreatLbj
import Derived.Test.YtlahgbhhejkgbaaGreatLbi
import Derived.Test.YtlahgbhhejkgbaaGreatLbf
import Derived.Test.YtlahgbhhejkgbaaGreatLbe

/- the reader of terms: copies of rows, what is taken, atoms -/
set_option maxRecDepth 4000
namespace Go.Proofs.YtlahgbhhejkgbaaGreat
open Go Go.RowKit Go.V
set_option linter.unusedVariables false
set_option linter.unusedSimpArgs false

theorem qfb (s : List UInt8) : qn Tryz.prog 103 [.str s] (encY (qmk s)) := by
 refine qf c0dc (by simp) (by simp only [go_sem]) (qz 0 _) fun hw => ?_
 have hr := qkc (s.drop 1)
 cases hp : pfx [63] s with
 | false =>
   repeat' (first | refine vs_ ?_ | ((first | refine vr_ ?_ | fail) <;> (try simp only [hp, go_sem, ↓reduceIte])) | ((first | (refine cs_ ?_ ?_ <;> intro hc) | refine cj_ ?_ | fail | refine qa (qh6 _) fun _ => ?_ | refine qa (qj _ _) fun _ => ?_) <;> (try refine ev_ ?_)) | with_reducible exact ti_)
   ·rw [qmk, if_pos (by assumption)]; rfl
   ·rw [qmk, if_neg (by assumption), hp]; rfl
 | true =>
   have hl := qyr hp
   repeat' (first | refine vs_ ?_ | ((first | refine vr_ ?_ | fail) <;> (try simp only [hp, go_sem, ↓reduceIte])) | ((first | (refine cs_ ?_ ?_ <;> intro hc) | refine cj_ ?_ | fail | refine qa (qh6 _) fun _ => ?_ | refine qa (qj _ _) fun _ => ?_ | refine qa (qgr _) fun _ => ?_) <;> (try refine ev_ ?_)) | with_reducible exact ti_)
   ·rw [qmk, if_pos (by assumption)]; rfl
   ·rw [qmk, if_neg (by assumption), if_pos (by assumption), if_pos (by assumption), qt (by omega) (by omega)]; rfl
   ·rw [qmk, if_neg (by assumption), if_pos (by assumption), if_neg (by assumption)]; rfl

/-! a copy of a row -/
abbrev qsr : FuncId := 88
theorem qyo : VCalls Tryz.prog qsr [] [.sl 3 (qq [])] fun H' o => H' = [] ∧ o = .val (.lit 3 []) := by
 refine qtu (k := 3) (Q' := fun H' o => H' = [] ∧ (o = .val (.lit 3 []) ∨ o = .val .nils)) ?_ fun H' o h => ?_
 ·refine qli c0dd 0 (by simp) (by simp) ?_
  unfold k0dd
  refine qb7 (qd6 ?_)
  (refine ev_ ?_; (try with_reducible exact ti_))
  refine qb7 (qb7 (qxf (l := [⟨none, some 3, .v (.mov (.t 0))⟩]) (t := 4) (x := .t 3) ?_))
  (refine ev_ ?_; (try with_reducible exact ti_))
  refine ⟨3, qq [], rfl, fun b hb => ?_⟩
  cases b
  ·repeat' (first | refine vs_ ?_ | ((first | refine vr_ ?_ | (refine cs_ ?_ ?_ <;> intro hc) | refine cj_ ?_ | fail) <;> (try refine ev_ ?_)) | with_reducible exact ti_)
  ·repeat' (first | refine vs_ ?_ | ((first | refine vr_ ?_ | (refine cs_ ?_ ?_ <;> intro hc) | refine cj_ ?_ | fail) <;> (try refine ev_ ?_)) | with_reducible exact ti_)
 ·rcases h with ⟨h, h1 | h1⟩
  ·exact .inl ⟨h, h1⟩
  ·exact .inr ⟨h1, h, rfl⟩
theorem qvi {l : List Ty} (h0 : l ≠ []) (hl : l.length ≤ 4294967296) : VCalls Tryz.prog qsr [] [.sl 3 (qq l)] fun H' o => H' = [.app 3 (qq l)] ∧ o = .val (.row 0 l.length) := by
 refine qli c0dd 1 (by simp) (by simp) ?_
 unfold k0dd
 refine qb7 (qd6 ?_)
 (refine ev_ ?_; (try with_reducible exact ti_))
 refine qb7 (qb7 (qxf (l := [⟨none, some 3, .v (.mov (.t 0))⟩]) (t := 4) (x := .t 3) ?_))
 (refine ev_ ?_; (try with_reducible exact ti_))
 refine ⟨3, qq l, rfl, fun b hb => ?_⟩
 have hcap : qb3 l.length 48 = True := eq_true (by unfold qb3; omega)
 have hln : (qq l).length ≠ 0 := by rw [qbg]; exact fun h => h0 (List.length_eq_zero_iff.1 h)
 have hln2 : ¬ l.length = 0 := fun h => h0 (List.length_eq_zero_iff.1 h)
 cases b
 ·repeat' (first | refine vs_ ?_ | ((first | refine vr_ ?_ | fail) <;> (try simp only [hln2, hcap, Nat.zero_add, go_sem, ↓reduceIte])) | ((first | (refine cs_ ?_ ?_ <;> intro hc) | refine cj_ ?_ | fail) <;> (try refine ev_ ?_)) | with_reducible exact ti_)
 ·exact absurd (hb rfl) (fun h => hln (by rw [h]; rfl))
section
variable {l : List Ty} {H : List Ent} {args raws : List AV} {K : Md → AV → List Ent → Prop}
theorem q1o (hl : l = []) (hq : K .here (.lit 3 []) H) (ha : args = [.sl 3 (qq l)] := by rfl) : DApp Tryz.prog H (.fn qsr [] []) args raws K := by
 subst hl
 subst ha
 refine .inl ⟨_, qbv ?_, hq⟩
 rw [List.nil_append, List.append_nil]
 refine qbb [] qyo (by simp) trivial (by simp [AV.bds, AV.bd, qcd]) (by simp only [AV.rens, AV.ren, qef]) fun H1 o ho => ?_
 obtain ⟨rfl, rfl⟩ := ho
 exact ⟨by simp [qdw, qbh], rfl⟩
theorem q38 (h0 : l ≠ []) (hl : l.length ≤ 4294967296) (hq : K (.grow none (.app 3 (qq l)) l.length) (.row H.length l.length) (H ++ [.app 3 (qq l)])) (hr : raws = [.sl 3 (qq l)] := by rfl) : DApp Tryz.prog H (.fn qsr [] []) args raws K := by
 subst hr
 refine .inr (.inr (.inr (.inl ⟨none, .app 3 (qq l), l.length, ⟨fun q hq => (by cases hq), fun H₀ h0' => ?_⟩, hq⟩)))
 refine qbv ?_
 rw [List.nil_append, List.append_nil]
 refine qbb [] (qvi h0 hl) (by simp) trivial (by simp [AV.bds, AV.bd, qcd]) (by simp only [AV.rens, AV.ren, qef]) fun H1 o ho => ?_
 obtain ⟨rfl, rfl⟩ := ho
 refine ⟨?_, ?_⟩
 ·show H₀ ++ [(Ent.app 3 (qq l)).ren _] = H₀ ++ [_]
  rw [Ent.ren, qef]
 ·show VO.val (.row (H₀.length + (0 - 0)) _) = _
  simp
end
/-! the reader -/
def rdE (r : Rd) : Ent := .blk [.str r.s, .int .i64 r.lv, .bool r.bad]
attribute [go_sem] rdE cutR badR lvR
theorem qbeq {p s : List UInt8} (h : pfx p s = true) : p.length ≤ s.length := by
 simp only [pfx, decide_eq_true_eq] at h
 have := congrArg List.length h
 rw [List.length_take] at this
 omega
theorem qly {r : Rd} {p : List UInt8} (h : pfx p r.s = true) : VM Tryz.prog 87 (rdE r) (rdE (cutR p.length r)) [.ptr 0 0, .str p] (.bool true) := by
 refine qe c0de 1 (by simp) (by simp) ?_
 have hl := qbeq h
 repeat' (first | refine vs_ ?_ | ((first | refine vr_ ?_ | fail) <;> (try simp only [h, go_sem, ↓reduceIte])) | ((first | (refine cs_ ?_ ?_ <;> intro hc) | refine cj_ ?_ | fail | refine qa (qj _ _) fun _ => ?_) <;> (try refine ev_ ?_)) | with_reducible exact ti_)
theorem qn9 {r : Rd} {p : List UInt8} (h : pfx p r.s = false) : VM Tryz.prog 87 (rdE r) (rdE r) [.ptr 0 0, .str p] (.bool false) := by
 refine qe c0de 1 (by simp) (by simp) ?_
 repeat' (first | refine vs_ ?_ | ((first | refine vr_ ?_ | fail) <;> (try simp only [h, go_sem, ↓reduceIte])) | ((first | (refine cs_ ?_ ?_ <;> intro hc) | refine cj_ ?_ | fail | refine qa (qj _ _) fun _ => ?_) <;> (try refine ev_ ?_)) | with_reducible exact ti_)
set_option maxRecDepth 4000

theorem qs7 : ∀ {H : List Ent} {i : Nat}, H.length ≤ i → ent H i = .dead
 | [], _, _ => rfl
 | _ :: _, 0, h => absurd h (by simp)
 | _ :: H, i + 1, h => qs7 (H := H) (i := i) (by simpa using h)
section
variable {P : Program} {f : FuncId} {e e' : Ent} {aa args caps rs : List AV} {r : AV} {H : List Ent} {Kk : Md → AV → List Ent → Prop}
theorem qbbt (i : Nat) (h : VM P f e e' aa r) (hq : Kk (.meth i e e') r (H.set i e')) (hn : e ≠ .dead := by intro h; cases h) (hb : e.bd 0 = true := by rfl) (hb' : e'.bd 0 = true := by rfl) (he : ent H i = e := by rfl) (hr : r.bd 0 = true := by first | rfl | simp [go_sem])
 (e1 : args ++ caps = AV.rens (sg [i]) aa := by first | rfl | (simp only [go_sem]; rfl) | (simp [go_sem, sg, AV.rens, AV.ren]; done)) (ha : AV.bds 1 aa = true := by first | rfl | (simp only [go_sem]; done) | simp [go_sem, AV.bds, AV.bd]) : DApp P H (.fn f [] caps) args rs Kk :=
 .inr (.inr (.inl ⟨r, i, e, e', ⟨hn, he, fun H₀ h0 => qbp i h ⟨rfl, rfl⟩ hb hb' (by
  rcases Nat.lt_or_ge i H₀.length with h1 | h1
  ·exact h1
  ·exact absurd (h0.symm.trans (qs7 h1)) hn) h0 hr e1 ha⟩, hq⟩))
end
theorem qj3 {H L : List Ent} {K : List Ent → Prop} {r : Rd} (h0 : -1 ≤ r.lv) (h1 : r.lv ≤ 1000) (hH : H = rdE r :: .blk [.ptr 0 0] :: L) (hq : K (rdE (lvR (r.lv - 1) r) :: .blk [.ptr 0 0] :: L)) : dlqD Tryz.prog [.dfr (.fn 84 [] [.ptr 1 0]) []] H K := by
 subst hH
 refine ⟨_, [], [.ptr 1 0], rfl, qbgv c0da (by simp) ?_⟩
 have hw : IntKind.i64.wrap (r.lv - 1) = r.lv - 1 := qt (by omega) (by omega)
 repeat' (first | refine vs_ ?_ | ((first | refine vr_ ?_ | fail) <;> (try simp only [hw, go_sem, ↓reduceIte])) | ((first | (refine cs_ ?_ ?_ <;> intro hc) | refine cj_ ?_ | fail) <;> (try refine ev_ ?_)) | with_reducible exact ti_)
 exact ⟨rfl, hq⟩

theorem qyv {n : Nat} {r : Rd} (hp : pfx [40] r.s = false) (hk : ascS r.s) : VM Tryz.prog 85 (rdE r) (rdE (qmq r).2) [.ptr 0 0] (encY (qmq r).1) := by
 refine qe c0db 1 (by simp) (by simp) ?_
 have hx := qif hk
 have hw := qr5 r.s
 by_cases hl : qe5 r.s < r.s.length
 ·rw [qi4, if_pos hl] at hx
  repeat' (first | refine vs_ ?_ | ((first | refine vr_ ?_ | refine qbp 0 (qn9 hp) ?_ | refine qa hx fun _ => ?_ | refine qa (qfb _) fun _ => ?_ | refine qg hx ?_ | refine qg (qfb _) ?_ | (refine cs_ ?_ ?_ <;> intro hc) | refine cj_ ?_ | fail) <;> (try refine ev_ ?_)) | with_reducible exact ti_)
  all_goals first | (exfalso; omega) | (simp [qmq, badR, cutR, *]; done) | (have hl2 : qe5 r.s = r.s.length := (by omega); simp [qmq, badR, cutR, *]; done)
 ·rw [qi4, if_neg hl] at hx
  repeat' (first | refine vs_ ?_ | ((first | refine vr_ ?_ | refine qbp 0 (qn9 hp) ?_ | refine qa hx fun _ => ?_ | refine qa (qfb _) fun _ => ?_ | refine qg hx ?_ | refine qg (qfb _) ?_ | (refine cs_ ?_ ?_ <;> intro hc) | refine cj_ ?_ | fail) <;> (try refine ev_ ?_)) | with_reducible exact ti_)
  all_goals first | (exfalso; omega) | (simp [qmq, badR, cutR, *]; done) | (have hl2 : qe5 r.s = r.s.length := (by omega); simp [qmq, badR, cutR, *]; done)
theorem q4a {r : Rd} {p : Ty × Rd} (hp : pfx [40] r.s = true) (hT : VM Tryz.prog 63 (rdE (cutR 1 r)) (rdE p.2) [.ptr 0 0] (encY p.1)) : VM Tryz.prog 85 (rdE r) (rdE (endA p).2) [.ptr 0 0] (encY (endA p).1) := by
 refine qe c0db 1 (by simp) (by simp) ?_
 cases hb : p.2.bad with
 | true =>
   rw [endA, if_pos hb]
   repeat' (first | refine vs_ ?_ | ((first | refine vr_ ?_ | fail) <;> (try simp only [hb, go_sem, ↓reduceIte])) | ((first | (refine cs_ ?_ ?_ <;> intro hc) | refine cj_ ?_ | fail | refine qbp 0 (qly hp) ?_ | refine qbp 0 hT ?_) <;> (try refine ev_ ?_)) | with_reducible exact ti_)
 | false =>
   cases hc : pfx [41] p.2.s with
   | true =>
     rw [endA, if_neg (by simp [hb]), if_pos hc]
     repeat' (first | refine vs_ ?_ | ((first | refine vr_ ?_ | fail) <;> (try simp only [hb, go_sem, ↓reduceIte])) | ((first | (refine cs_ ?_ ?_ <;> intro hc) | refine cj_ ?_ | fail | refine qbp 0 (qly hp) ?_ | refine qbp 0 hT ?_ | refine qbp 0 (qly (r := ⟨p.2.s, p.2.lv, false⟩) hc) ?_) <;> (try refine ev_ ?_)) | with_reducible exact ti_)
   | false =>
     rw [endA, if_neg (by simp [hb]), if_neg (by simp [hc])]
     repeat' (first | refine vs_ ?_ | ((first | refine vr_ ?_ | fail) <;> (try simp only [hb, go_sem, ↓reduceIte])) | ((first | (refine cs_ ?_ ?_ <;> intro hc) | refine cj_ ?_ | fail | refine qbp 0 (qly hp) ?_ | refine qbp 0 hT ?_ | refine qbp 0 (qn9 (r := ⟨p.2.s, p.2.lv, false⟩) hc) ?_) <;> (try refine ev_ ?_)) | with_reducible exact ti_)

/-! patterns that are let be types -/

section
variable {L : List Ent} {Q : List Ent → VO → Prop} {s : List Pr}
theorem qrg {f : FuncId} {args : List AV} {q : List Pr × Int} (h : VCalls Tryz.prog f [] args (newQ [] q)) (ha : AV.bds 0 args = true) (hq : if q.2 = 0 then Q (L ++ [subE q.1]) (.val (.tup [.ptr L.length 0, .int .i64 0])) else Q L (.val (.tup [.nilp, .int .i64 q.2]))) : VApp Tryz.prog L (.fn f [] []) args Q := by
 refine qbv ?_
 rw [List.nil_append, List.append_nil]
 refine qbb [] h (by simp) trivial ha (qr (m := 0) (fun i hi => by omega) _ ha).symm fun H1 o ho => ?_
 rw [newQ] at ho
 split at ho
 ·rename_i he
  rw [if_pos he] at hq
  obtain ⟨rfl, rfl⟩ := ho
  show Q _ (.val (.tup [.ptr (L.length + (0 - 0)) 0, .int .i64 0]))
  exact hq
 ·rename_i he
  rw [if_neg he] at hq
  obtain ⟨rfl, rfl⟩ := ho
  have e1 : qdw L [] [] = L := by
   show L ++ [] = _
   rw [List.append_nil]
  rw [e1]
  exact hq
theorem qjw {f : FuncId} {args : List AV} {q : List Pr × Int} (h : VCalls Tryz.prog f [] args (newQ [] q)) (ha : AV.bds 0 args = true) (he : q = (s, 0)) (hq : Q (L ++ [subE s]) (.val (.tup [.ptr L.length 0, .int .i64 0]))) : VApp Tryz.prog L (.fn f [] []) args Q :=
 qrg h ha (by subst he; rw [if_pos rfl]; exact hq)
theorem qhb {f : FuncId} {args : List AV} {q : List Pr × Int} {e : Int} (h : VCalls Tryz.prog f [] args (newQ [] q)) (ha : AV.bds 0 args = true) (he : q = (s, e)) (hne : e ≠ 0) (hq : Q L (.val (.tup [.nilp, .int .i64 e]))) : VApp Tryz.prog L (.fn f [] []) args Q :=
 qrg h ha (by subst he; rw [if_neg hne]; exact hq)
end
end Go.Proofs.YtlahgbhhejkgbaaGreat
