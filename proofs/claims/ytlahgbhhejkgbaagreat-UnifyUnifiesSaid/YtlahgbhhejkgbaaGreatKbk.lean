/- Texts of this proof, joined. -/
import Derived.Test.YtlahgbhhejkgbaaGreatKbj
import Derived.Test.YtlahgbhhejkgbaaGreatKbi
import Derived.Test.YtlahgbhhejkgbaaGreatKbf
import Derived.Test.YtlahgbhhejkgbaaGreatKbe

/- the reader of terms: copies of rows, what is taken, atoms -/
set_option maxRecDepth 4000
namespace Go.Proofs.YtlahgbhhejkgbaaGreat
open Go Go.RowKit Go.V
set_option linter.unusedVariables false
set_option linter.unusedSimpArgs false

theorem qfo (s : List UInt8) : qj Tryz.prog 103 [.str s] (encY (qm0 s)) := by
 refine qg c0dh (by simp) (by simp only [go_sem]) (qz 0 _) fun hw => ?_
 have hr := qju (s.drop 1)
 cases hp : pfx [63] s with
 | false =>
   repeat' (first | refine vs_ ?_ | ((first | refine vr_ ?_ | fail) <;> (try simp only [hp, go_sem, ↓reduceIte])) | ((first | (refine cs_ ?_ ?_ <;> intro hc) | refine cj_ ?_ | fail | refine qa (qil _) fun _ => ?_ | refine qa (qn _ _) fun _ => ?_) <;> (try refine ev_ ?_)) | with_reducible exact ti_)
   ·rw [qm0, if_pos (by assumption)]; rfl
   ·rw [qm0, if_neg (by assumption), hp]; rfl
 | true =>
   have hl := q0b hp
   repeat' (first | refine vs_ ?_ | ((first | refine vr_ ?_ | fail) <;> (try simp only [hp, go_sem, ↓reduceIte])) | ((first | (refine cs_ ?_ ?_ <;> intro hc) | refine cj_ ?_ | fail | refine qa (qil _) fun _ => ?_ | refine qa (qn _ _) fun _ => ?_ | refine qa (qgs _) fun _ => ?_) <;> (try refine ev_ ?_)) | with_reducible exact ti_)
   ·rw [qm0, if_pos (by assumption)]; rfl
   ·rw [qm0, if_neg (by assumption), if_pos (by assumption), if_pos (by assumption), qw (by omega) (by omega)]; rfl
   ·rw [qm0, if_neg (by assumption), if_pos (by assumption), if_neg (by assumption)]; rfl

/-! a copy of a row -/
abbrev qsw : FuncId := 88
theorem q0f : VCalls Tryz.prog qsw [] [.sl 3 (qt [])] fun H' o => H' = [] ∧ o = .val (.lit 3 []) := by
 refine qtx (k := 3) (Q' := fun H' o => H' = [] ∧ (o = .val (.lit 3 []) ∨ o = .val .nils)) ?_ fun H' o h => ?_
 ·refine qlx c0di 0 (by simp) (by simp) ?_
  unfold k0di
  refine qcg (qek ?_)
  (refine ev_ ?_; (try with_reducible exact ti_))
  refine qcg (qcg (q0c (l := [⟨none, some 3, .v (.mov (.t 0))⟩]) (t := 4) (x := .t 3) ?_))
  (refine ev_ ?_; (try with_reducible exact ti_))
  refine ⟨3, qt [], rfl, fun b hb => ?_⟩
  cases b
  ·repeat' (first | refine vs_ ?_ | ((first | refine vr_ ?_ | (refine cs_ ?_ ?_ <;> intro hc) | refine cj_ ?_ | fail) <;> (try refine ev_ ?_)) | with_reducible exact ti_)
  ·repeat' (first | refine vs_ ?_ | ((first | refine vr_ ?_ | (refine cs_ ?_ ?_ <;> intro hc) | refine cj_ ?_ | fail) <;> (try refine ev_ ?_)) | with_reducible exact ti_)
 ·rcases h with ⟨h, h1 | h1⟩
  ·exact .inl ⟨h, h1⟩
  ·exact .inr ⟨h1, h, rfl⟩
theorem qxt {l : List Ty} (h0 : l ≠ []) (hl : l.length ≤ 4294967296) : VCalls Tryz.prog qsw [] [.sl 3 (qt l)] fun H' o => H' = [.app 3 (qt l)] ∧ o = .val (.row 0 l.length) := by
 refine qlx c0di 1 (by simp) (by simp) ?_
 unfold k0di
 refine qcg (qek ?_)
 (refine ev_ ?_; (try with_reducible exact ti_))
 refine qcg (qcg (q0c (l := [⟨none, some 3, .v (.mov (.t 0))⟩]) (t := 4) (x := .t 3) ?_))
 (refine ev_ ?_; (try with_reducible exact ti_))
 refine ⟨3, qt l, rfl, fun b hb => ?_⟩
 have hcap : qb5 l.length 48 = True := eq_true (by unfold qb5; omega)
 have hln : (qt l).length ≠ 0 := by rw [qbu]; exact fun h => h0 (List.length_eq_zero_iff.1 h)
 have hln2 : ¬ l.length = 0 := fun h => h0 (List.length_eq_zero_iff.1 h)
 cases b
 ·repeat' (first | refine vs_ ?_ | ((first | refine vr_ ?_ | fail) <;> (try simp only [hln2, hcap, Nat.zero_add, go_sem, ↓reduceIte])) | ((first | (refine cs_ ?_ ?_ <;> intro hc) | refine cj_ ?_ | fail) <;> (try refine ev_ ?_)) | with_reducible exact ti_)
 ·exact absurd (hb rfl) (fun h => hln (by rw [h]; rfl))
section
variable {l : List Ty} {H : List Ent} {args raws : List AV} {K : Md → AV → List Ent → Prop}
theorem q1r (hl : l = []) (hq : K .here (.lit 3 []) H) (ha : args = [.sl 3 (qt l)] := by rfl) : DApp Tryz.prog H (.fn qsw [] []) args raws K := by
 subst hl
 subst ha
 refine .inl ⟨_, qb3 ?_, hq⟩
 rw [List.nil_append, List.append_nil]
 refine qba [] q0f (by simp) trivial (by simp [AV.bds, AV.bd, qcl]) (by simp only [AV.rens, AV.ren, qfc]) fun H1 o ho => ?_
 obtain ⟨rfl, rfl⟩ := ho
 exact ⟨by simp [qea, qbf], rfl⟩
theorem q4h (h0 : l ≠ []) (hl : l.length ≤ 4294967296) (hq : K (.grow none (.app 3 (qt l)) l.length) (.row H.length l.length) (H ++ [.app 3 (qt l)])) (hr : raws = [.sl 3 (qt l)] := by rfl) : DApp Tryz.prog H (.fn qsw [] []) args raws K := by
 subst hr
 refine .inr (.inr (.inr (.inl ⟨none, .app 3 (qt l), l.length, ⟨fun q hq => (by cases hq), fun H₀ h0' => ?_⟩, hq⟩)))
 refine qb3 ?_
 rw [List.nil_append, List.append_nil]
 refine qba [] (qxt h0 hl) (by simp) trivial (by simp [AV.bds, AV.bd, qcl]) (by simp only [AV.rens, AV.ren, qfc]) fun H1 o ho => ?_
 obtain ⟨rfl, rfl⟩ := ho
 refine ⟨?_, ?_⟩
 ·show H₀ ++ [(Ent.app 3 (qt l)).ren _] = H₀ ++ [_]
  rw [Ent.ren, qfc]
 ·show VO.val (.row (H₀.length + (0 - 0)) _) = _
  simp
end
/-! the reader -/
def rdE (r : Rd) : Ent := .blk [.str r.s, .int .i64 r.lv, .bool r.bad]
attribute [go_sem] rdE cutR badR lvR
theorem qbdv {p s : List UInt8} (h : pfx p s = true) : p.length ≤ s.length := by
 simp only [pfx, decide_eq_true_eq] at h
 have := congrArg List.length h
 rw [List.length_take] at this
 omega
theorem qlm {r : Rd} {p : List UInt8} (h : pfx p r.s = true) : VM Tryz.prog 87 (rdE r) (rdE (cutR p.length r)) [.ptr 0 0, .str p] (.bool true) := by
 refine qf c0dj 1 (by simp) (by simp) ?_
 have hl := qbdv h
 repeat' (first | refine vs_ ?_ | ((first | refine vr_ ?_ | fail) <;> (try simp only [h, go_sem, ↓reduceIte])) | ((first | (refine cs_ ?_ ?_ <;> intro hc) | refine cj_ ?_ | fail | refine qa (qn _ _) fun _ => ?_) <;> (try refine ev_ ?_)) | with_reducible exact ti_)
theorem qn3 {r : Rd} {p : List UInt8} (h : pfx p r.s = false) : VM Tryz.prog 87 (rdE r) (rdE r) [.ptr 0 0, .str p] (.bool false) := by
 refine qf c0dj 1 (by simp) (by simp) ?_
 repeat' (first | refine vs_ ?_ | ((first | refine vr_ ?_ | fail) <;> (try simp only [h, go_sem, ↓reduceIte])) | ((first | (refine cs_ ?_ ?_ <;> intro hc) | refine cj_ ?_ | fail | refine qa (qn _ _) fun _ => ?_) <;> (try refine ev_ ?_)) | with_reducible exact ti_)
set_option maxRecDepth 4000

theorem qs9 : ∀ {H : List Ent} {i : Nat}, H.length ≤ i → ent H i = .dead
 | [], _, _ => rfl
 | _ :: _, 0, h => absurd h (by simp)
 | _ :: H, i + 1, h => qs9 (H := H) (i := i) (by simpa using h)
section
variable {P : Program} {f : FuncId} {e e' : Ent} {aa args caps rs : List AV} {r : AV} {H : List Ent} {Kk : Md → AV → List Ent → Prop}
theorem q8q (i : Nat) (h : VM P f e e' aa r) (hq : Kk (.meth i e e') r (H.set i e')) (hn : e ≠ .dead := by intro h; cases h) (hb : e.bd 0 = true := by rfl) (hb' : e'.bd 0 = true := by rfl) (he : ent H i = e := by rfl) (hr : r.bd 0 = true := by first | rfl | simp [go_sem])
 (e1 : args ++ caps = AV.rens (sg [i]) aa := by first | rfl | (simp only [go_sem]; rfl) | (simp [go_sem, sg, AV.rens, AV.ren]; done)) (ha : AV.bds 1 aa = true := by first | rfl | (simp only [go_sem]; done) | simp [go_sem, AV.bds, AV.bd]) : DApp P H (.fn f [] caps) args rs Kk :=
 .inr (.inr (.inl ⟨r, i, e, e', ⟨hn, he, fun H₀ h0 => qbq i h ⟨rfl, rfl⟩ hb hb' (by
  rcases Nat.lt_or_ge i H₀.length with h1 | h1
  ·exact h1
  ·exact absurd (h0.symm.trans (qs9 h1)) hn) h0 hr e1 ha⟩, hq⟩))
end
theorem qj8 {H L : List Ent} {K : List Ent → Prop} {r : Rd} (h0 : -1 ≤ r.lv) (h1 : r.lv ≤ 1000) (hH : H = rdE r :: .blk [.ptr 0 0] :: L) (hq : K (rdE (lvR (r.lv - 1) r) :: .blk [.ptr 0 0] :: L)) : dlqD Tryz.prog [.dfr (.fn 84 [] [.ptr 1 0]) []] H K := by
 subst hH
 refine ⟨_, [], [.ptr 1 0], rfl, qbct c0df (by simp) ?_⟩
 have hw : IntKind.i64.wrap (r.lv - 1) = r.lv - 1 := qw (by omega) (by omega)
 repeat' (first | refine vs_ ?_ | ((first | refine vr_ ?_ | fail) <;> (try simp only [hw, go_sem, ↓reduceIte])) | ((first | (refine cs_ ?_ ?_ <;> intro hc) | refine cj_ ?_ | fail) <;> (try refine ev_ ?_)) | with_reducible exact ti_)
 exact ⟨rfl, hq⟩

theorem qzz {n : Nat} {r : Rd} (hp : pfx [40] r.s = false) (hk : ascS r.s) : VM Tryz.prog 85 (rdE r) (rdE (qmu r).2) [.ptr 0 0] (encY (qmu r).1) := by
 refine qf c0dg 1 (by simp) (by simp) ?_
 have hx := qim hk
 have hw := qsn r.s
 by_cases hl : qe8 r.s < r.s.length
 ·rw [qiu, if_pos hl] at hx
  repeat' (first | refine vs_ ?_ | ((first | refine vr_ ?_ | refine qbq 0 (qn3 hp) ?_ | refine qa hx fun _ => ?_ | refine qa (qfo _) fun _ => ?_ | refine qc hx ?_ | refine qc (qfo _) ?_ | (refine cs_ ?_ ?_ <;> intro hc) | refine cj_ ?_ | fail) <;> (try refine ev_ ?_)) | with_reducible exact ti_)
  all_goals first | (exfalso; omega) | (simp [qmu, badR, cutR, *]; done) | (have hl2 : qe8 r.s = r.s.length := (by omega); simp [qmu, badR, cutR, *]; done)
 ·rw [qiu, if_neg hl] at hx
  repeat' (first | refine vs_ ?_ | ((first | refine vr_ ?_ | refine qbq 0 (qn3 hp) ?_ | refine qa hx fun _ => ?_ | refine qa (qfo _) fun _ => ?_ | refine qc hx ?_ | refine qc (qfo _) ?_ | (refine cs_ ?_ ?_ <;> intro hc) | refine cj_ ?_ | fail) <;> (try refine ev_ ?_)) | with_reducible exact ti_)
  all_goals first | (exfalso; omega) | (simp [qmu, badR, cutR, *]; done) | (have hl2 : qe8 r.s = r.s.length := (by omega); simp [qmu, badR, cutR, *]; done)
theorem q5h {r : Rd} {p : Ty × Rd} (hp : pfx [40] r.s = true) (hT : VM Tryz.prog 63 (rdE (cutR 1 r)) (rdE p.2) [.ptr 0 0] (encY p.1)) : VM Tryz.prog 85 (rdE r) (rdE (endA p).2) [.ptr 0 0] (encY (endA p).1) := by
 refine qf c0dg 1 (by simp) (by simp) ?_
 cases hb : p.2.bad with
 | true =>
   rw [endA, if_pos hb]
   repeat' (first | refine vs_ ?_ | ((first | refine vr_ ?_ | fail) <;> (try simp only [hb, go_sem, ↓reduceIte])) | ((first | (refine cs_ ?_ ?_ <;> intro hc) | refine cj_ ?_ | fail | refine qbq 0 (qlm hp) ?_ | refine qbq 0 hT ?_) <;> (try refine ev_ ?_)) | with_reducible exact ti_)
 | false =>
   cases hc : pfx [41] p.2.s with
   | true =>
     rw [endA, if_neg (by simp [hb]), if_pos hc]
     repeat' (first | refine vs_ ?_ | ((first | refine vr_ ?_ | fail) <;> (try simp only [hb, go_sem, ↓reduceIte])) | ((first | (refine cs_ ?_ ?_ <;> intro hc) | refine cj_ ?_ | fail | refine qbq 0 (qlm hp) ?_ | refine qbq 0 hT ?_ | refine qbq 0 (qlm (r := ⟨p.2.s, p.2.lv, false⟩) hc) ?_) <;> (try refine ev_ ?_)) | with_reducible exact ti_)
   | false =>
     rw [endA, if_neg (by simp [hb]), if_neg (by simp [hc])]
     repeat' (first | refine vs_ ?_ | ((first | refine vr_ ?_ | fail) <;> (try simp only [hb, go_sem, ↓reduceIte])) | ((first | (refine cs_ ?_ ?_ <;> intro hc) | refine cj_ ?_ | fail | refine qbq 0 (qlm hp) ?_ | refine qbq 0 hT ?_ | refine qbq 0 (qn3 (r := ⟨p.2.s, p.2.lv, false⟩) hc) ?_) <;> (try refine ev_ ?_)) | with_reducible exact ti_)

/-! patterns that are let be types -/

section
variable {L : List Ent} {Q : List Ent → VO → Prop} {s : List Pr}
theorem qr0 {f : FuncId} {args : List AV} {q : List Pr × Int} (h : VCalls Tryz.prog f [] args (newQ [] q)) (ha : AV.bds 0 args = true) (hq : if q.2 = 0 then Q (L ++ [subE q.1]) (.val (.tup [.ptr L.length 0, .int .i64 0])) else Q L (.val (.tup [.nilp, .int .i64 q.2]))) : VApp Tryz.prog L (.fn f [] []) args Q := by
 refine qb3 ?_
 rw [List.nil_append, List.append_nil]
 refine qba [] h (by simp) trivial ha (qu (m := 0) (fun i hi => by omega) _ ha).symm fun H1 o ho => ?_
 rw [newQ] at ho
 split at ho
 ·rename_i he
  rw [if_pos he] at hq
  obtain ⟨rfl, rfl⟩ := ho
  show Q _ (.val (.tup [.ptr (L.length + (0 - 0)) 0, .int .i64 0]))
  exact hq
 ·rename_i he
  rw [if_neg he] at hq
  obtain ⟨rfl, rfl⟩ := ho
  have e1 : qea L [] [] = L := by
   show L ++ [] = _
   rw [List.append_nil]
  rw [e1]
  exact hq
theorem qkt {f : FuncId} {args : List AV} {q : List Pr × Int} (h : VCalls Tryz.prog f [] args (newQ [] q)) (ha : AV.bds 0 args = true) (he : q = (s, 0)) (hq : Q (L ++ [subE s]) (.val (.tup [.ptr L.length 0, .int .i64 0]))) : VApp Tryz.prog L (.fn f [] []) args Q :=
 qr0 h ha (by subst he; rw [if_pos rfl]; exact hq)
theorem qh9 {f : FuncId} {args : List AV} {q : List Pr × Int} {e : Int} (h : VCalls Tryz.prog f [] args (newQ [] q)) (ha : AV.bds 0 args = true) (he : q = (s, e)) (hne : e ≠ 0) (hq : Q L (.val (.tup [.nilp, .int .i64 e]))) : VApp Tryz.prog L (.fn f [] []) args Q :=
 qr0 h ha (by subst he; rw [if_neg hne]; exact hq)
end
end Go.Proofs.YtlahgbhhejkgbaaGreat
