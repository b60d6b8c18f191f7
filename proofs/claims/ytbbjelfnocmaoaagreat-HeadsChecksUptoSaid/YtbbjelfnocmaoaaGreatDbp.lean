/- Texts of this proof, joined. -/
import Derived.Test.YtbbjelfnocmaoaaGreatDbo
import Derived.Test.YtbbjelfnocmaoaaGreatDau
import Derived.Test.YtbbjelfnocmaoaaGreatDbk
import Derived.Test.YtbbjelfnocmaoaaGreatDbi

/- the reader of terms: a term that is read -/
set_option maxRecDepth 4000
namespace Go.Proofs.YtbbjelfnocmaoaaGreat
open Go Go.RowKit Go.V
set_option linter.unusedVariables false
set_option linter.unusedSimpArgs false

theorem qz3 {n : Nat} {r0 : Rd} {tg : Ty × Rd} (hA : ∀ m, m ≤ n → RA m) (hk0 : r0.s.length < 4294967281) (h0 : 0 ≤ r0.lv) (h1 : r0.lv ≤ 200) {Q : VE → AF → List Ent → Prop} {af : AF} {H : List Ent}
 (hat : At (Bool × Nat × Ty × Rd) (fun x => tmI n r0 tg x.2) tmSf 1 af H) (hQ : ∀ af H, At Unit (fun _ => True) (fun _ => tmSt (0, tg)) 1 af H → Q .nrm af H) : VI Tryz.prog none 67 1 (.block 0 (.loop qmk)) Q af H :=
 (qwe (Q := Q) hA hk0 h0 h1 hat).mono fun e af H hq => by
  cases e with
  | nrm => exact hQ af H hq
  | _ => exact hq
theorem qbsn {n : Nat} (hA : ∀ m, m ≤ n → RA m) (hT : ∀ m, m ≤ n → RT m) : RT (n + 1) := fun r hk h0 h1 hn => by
 by_cases hb : r.bad = true ∨ 200 < r.lv + 1
 ·rw [qec, if_pos hb]
  exact q1u hb h0 h1
 rw [qec, if_neg hb]
 have hb1 : r.bad = false := by cases h : r.bad with | false => rfl | true => exact absurd (.inl h) hb
 have hb2 : ¬ 200 < r.lv + 1 := fun h => hb (.inr h)
 have hw : IntKind.i64.wrap (r.lv + 1) = r.lv + 1 := qt (by omega) (by omega)
 have hatm := hA n (Nat.le_refl n) (lvR (r.lv + 1) r) hk (by show 0 ≤ r.lv + 1; omega) (by show r.lv + 1 ≤ 200; omega) (by show 3 * r.s.length + 1 ≤ n; omega)
 have hsf := qr7 (n := n) (by omega) (lvR (r.lv + 1) r)
 have hl : lvR (r.lv + 1) r = ⟨r.s, r.lv + 1, false⟩ := by rw [lvR, hb1]
 rw [hl] at hatm hsf ⊢
 generalize qc4 n ⟨r.s, r.lv + 1, false⟩ = p0 at hatm hsf ⊢
 have hsm := qgq ⟨hsf.1, hsf.2.1⟩ (q1j n p0.1 p0.2) hsf.2.2
 generalize htg : qj7 n p0.1 p0.2 = tg at hsm ⊢
 have hks := qbo5 hsm hk
 obtain ⟨p1, p2, p3⟩ := hsf
 obtain ⟨s1, s2, s3⟩ := hsm
 dsimp only at p1 p2 p3 s1 s2 s3 hks
 refine qkn c0cy 1 (by simp) (by simp) ?_
 unfold k0cy
 refine qcj ?_
 repeat' (first | refine vs_ ?_ | ((first | refine vr_ ?_ | fail) <;> (try simp only [hw, hb2, decide_false, go_sem, ↓reduceIte])) | ((first | (refine cs_ ?_ ?_ <;> intro hc) | refine cj_ ?_ | simp (disch := omega) only [encs_getN, qb]) <;> (try refine ev_ ?_)) | with_reducible exact ti_)
 refine qvl ?_
 (refine ev_ ?_; (try with_reducible exact ti_))
 refine ⟨_, [], [.ptr 1 0], rfl, ?_⟩
 refine qjw (S := Unit) (fun _ => True) (fun _ => (⟨[(1, .ptr 1 0), (2, .ptr 2 0)], dl1⟩, [rdE ⟨r.s, r.lv + 1, false⟩, .blk [.ptr 0 0], .blk z1Y])) ?_ fun _ _ => ?_
 ·repeat' (first | refine vs_ ?_ | ((first | refine vr_ ?_ | fail) <;> (try simp only [hb1, go_sem, ↓reduceIte])) | ((first | (refine cs_ ?_ ?_ <;> intro hc) | refine cj_ ?_ | simp (disch := omega) only [encs_getN, qb]) <;> (try refine ev_ ?_)) | with_reducible exact ti_)
  refine qh () [0, 1, 2] trivial rfl (by simp) ?_ ?_ ?_ <;> simp only [dl1, hb1] <;> (try refine ev_ ?_) <;> (try with_reducible exact ti_) <;> (try simp (disch := omega) only [qb, and_true, true_and])
 refine qjw (S := Unit) (fun _ => True) (fun _ => tmSf (false, n, p0.1, p0.2)) ?_ fun _ _ => ?_
 ·repeat' (first | refine vs_ ?_ | ((first | refine vr_ ?_ | refine qb6 0 hatm ?_ | (refine cs_ ?_ ?_ <;> intro hc) | refine cj_ ?_ | simp (disch := omega) only [encs_getN, qb]) <;> (try refine ev_ ?_)) | with_reducible exact ti_)
  refine qh () [0, 1, 2, 3] trivial rfl (by simp) ?_ ?_ ?_ <;> simp only [tmSf, tmSt, dl1, Bool.false_eq_true, if_false] <;> (try refine ev_ ?_) <;> (try with_reducible exact ti_) <;> (try simp (disch := omega) only [qb, and_true, true_and])
 have hin : tmI n ⟨r.s, r.lv + 1, false⟩ tg (n, p0.1, p0.2) := ⟨htg, by dsimp only; omega, Nat.le_refl _, by obtain ⟨j, q⟩ := p1; dsimp only; rw [q]; exact qdc hk j, p2, by dsimp only; omega⟩
 have hat0 : At (Bool × Nat × Ty × Rd) (fun x => tmI n ⟨r.s, r.lv + 1, false⟩ tg x.2) tmSf 1 (tmSf (false, n, p0.1, p0.2)).1 (tmSf (false, n, p0.1, p0.2)).2 := by
  refine qh (false, n, p0.1, p0.2) [0, 1, 2, 3] hin rfl (by simp) ?_ ?_ ?_ <;> simp only [tmSf, tmSt, dl1, Bool.false_eq_true, if_false] <;> (try refine ev_ ?_) <;> (try with_reducible exact ti_) <;> (try simp (disch := omega) only [qb, and_true, true_and])
 refine qcj (qz3 (r0 := ⟨r.s, r.lv + 1, false⟩) hA hk.1 (by dsimp only; omega) (by dsimp only; omega) hat0 fun af H hat => qwt hat fun _ _ => ?_)
 unfold tmSt
 obtain ⟨n', rfl⟩ : ∃ n', n = n' + 1 := ⟨n - 1, by omega⟩
 rw [qx0]
 cases hbt : tg.2.bad with
 | true =>
   rw [if_neg (by simp)]
   repeat' (first | refine vs_ ?_ | ((first | refine vr_ ?_ | fail) <;> (try simp only [hbt, go_sem, ↓reduceIte])) | ((first | (refine cs_ ?_ ?_ <;> intro hc) | refine cj_ ?_ | simp (disch := omega) only [encs_getN, qb]) <;> (try refine ev_ ?_)) | with_reducible exact ti_)
   refine qjx (r := ⟨tg.2.s, tg.2.lv, true⟩) (L := [.blk (yc tg.1), .blk (yc tg.1)]) (by dsimp only; omega) (by dsimp only; omega) rfl ?_
   (refine ev_ ?_; (try with_reducible exact ti_))
   all_goals (try rfl)
 | false =>
   cases hpt : pfx arrS tg.2.s with
   | false =>
     rw [if_neg (by simp)]
     repeat' (first | refine vs_ ?_ | ((first | refine vr_ ?_ | fail) <;> (try simp only [hbt, go_sem, ↓reduceIte])) | ((first | (refine cs_ ?_ ?_ <;> intro hc) | refine cj_ ?_ | simp (disch := omega) only [encs_getN, qb] | refine qb6 0 (qoc (r := ⟨tg.2.s, tg.2.lv, false⟩) hpt) ?_) <;> (try refine ev_ ?_)) | with_reducible exact ti_)
     refine qjx (r := ⟨tg.2.s, tg.2.lv, false⟩) (L := [.blk (yc tg.1), .blk (yc tg.1)]) (by dsimp only; omega) (by dsimp only; omega) rfl ?_
     (refine ev_ ?_; (try with_reducible exact ti_))
     all_goals (try rfl)
   | true =>
     have hlp := qf6 hpt
     simp only [arrS, List.length_cons, List.length_nil] at hlp
     have htm := hT n' (by omega) (cutR 4 tg.2) (qdc hks 4) (by show 0 ≤ tg.2.lv; omega) (by show tg.2.lv ≤ 200; omega) (by rw [qft]; omega)
     have htl := (q3b (n := n') (by omega) (cutR 4 tg.2)).2.1
     have hct : cutR 4 tg.2 = ⟨tg.2.s.drop 4, tg.2.lv, false⟩ := by rw [cutR, hbt]
     rw [hct] at htm htl ⊢
     generalize qec n' ⟨tg.2.s.drop 4, tg.2.lv, false⟩ = p2 at htm htl ⊢
     rw [if_pos ⟨rfl, rfl⟩]
     repeat' (first | refine vs_ ?_ | ((first | refine vr_ ?_ | fail) <;> (try simp only [hbt, go_sem, ↓reduceIte])) | ((first | (refine cs_ ?_ ?_ <;> intro hc) | refine cj_ ?_ | simp (disch := omega) only [encs_getN, qb] | refine qb6 0 (qk8 (r := ⟨tg.2.s, tg.2.lv, false⟩) hpt) ?_ | refine qbcr 0 htm ?_) <;> (try refine ev_ ?_)) | with_reducible exact ti_)
     refine qjx (r := p2.2) (L := [.blk [.str [45, 62], .int .i64 0, .lit 3 [encY tg.1, encY p2.1]], .blk (yc tg.1)]) (by dsimp only at htl; omega) (by dsimp only at htl; omega) rfl ?_
     (refine ev_ ?_; (try with_reducible exact ti_))
     exact ⟨rfl, rfl⟩
theorem qbr0 : ∀ N, (∀ n, n ≤ N → RA n) ∧ ∀ n, n ≤ N → RT n := fun N => by
 induction N with
 | zero => exact ⟨fun n hn r _ _ _ h => by omega, fun n hn r _ _ _ h => by omega⟩
 | succ N ih =>
   have hT : RT (N + 1) := qbsn ih.1 ih.2
   have hA : RA (N + 1) := qbsk (ih.2 N (Nat.le_refl N))
   refine ⟨fun n hn => ?_, fun n hn => ?_⟩
   ·rcases Nat.lt_or_ge n (N + 1) with h | h
    ·exact ih.1 n (by omega)
    ·rw [show n = N + 1 by omega]; exact hA
   ·rcases Nat.lt_or_ge n (N + 1) with h | h
    ·exact ih.2 n (by omega)
    ·rw [show n = N + 1 by omega]; exact hT
theorem qpp {n : Nat} {r : Rd} (hk : ascS r.s) (h0 : 0 ≤ r.lv) (h1 : r.lv ≤ 200) (hn : 3 * r.s.length + 2 ≤ n) : VM Tryz.prog 42 (rdE r) (rdE (qec n r).2) [.ptr 0 0] (encY (qec n r).1) := (qbr0 n).2 n (Nat.le_refl n) r hk h0 h1 hn
def qfn (s : List UInt8) : Ty × Rd := qec (3 * s.length + 2) ⟨s, 0, false⟩
def qz1 (s : List UInt8) : Ty × Int := if (qfn s).2.bad = true then (Y0, 5) else if (qfn s).2.s = [] then (if qb4 (qfn s).1 = s then ((qfn s).1, 0) else (Y0, 5)) else (Y0, 5)
def rdOK (s : List UInt8) : Prop := ascS s ∧ szY (qfn s).1 ≤ 20000 ∧ dpY (qfn s).1 ≤ 300 ∧ (qb4 (qfn s).1).length ≤ Big
theorem qti {s : List UInt8} (h : rdOK s) : qg Tryz.prog 24 [.str s] (.tup [encY (qz1 s).1, .int .i64 (qz1 s).2]) := by
 refine qd c0cz (by simp) (by simp only [go_sem]) (by simp [AV.bd, AV.bds, qbp]) fun hw => ?_
 obtain ⟨h1, h2, h3, h4⟩ := h
 have hr := qpp (n := 3 * s.length + 2) (r := ⟨s, 0, false⟩) h1 (Int.le_refl 0) (show (0 : Int) ≤ 200 by decide) (Nat.le_refl _)
 have ht := qfe h2 h3 h4
 have hY : qz1 s = if (qfn s).2.bad = true then (Y0, 5) else if (qfn s).2.s = [] then (if qb4 (qfn s).1 = s then ((qfn s).1, 0) else (Y0, 5)) else (Y0, 5) := rfl
 change VM _ _ _ (rdE (qfn s).2) _ (encY (qfn s).1) at hr
 generalize qfn s = p at *
 cases hb : p.2.bad with
 | true =>
   rw [hb, if_pos rfl] at hY
   rw [hY]
   repeat' (first | refine vs_ ?_ | ((first | refine vr_ ?_ | fail) <;> (try simp only [hb, go_sem, ↓reduceIte])) | ((first | (refine cs_ ?_ ?_ <;> intro hc) | refine cj_ ?_ | fail | refine qb6 1 hr ?_) <;> (try refine ev_ ?_)) | with_reducible exact ti_)
   all_goals rfl
 | false =>
   rw [hb, if_neg (by simp)] at hY
   rw [hY]
   by_cases he : p.2.s = []
   ·by_cases h5 : qb4 p.1 = s
    ·rw [if_pos he, if_pos h5]
     repeat' (first | refine vs_ ?_ | ((first | refine vr_ ?_ | fail) <;> (try simp only [hb, he, h5, go_sem, ↓reduceIte])) | ((first | (refine cs_ ?_ ?_ <;> intro hc) | refine cj_ ?_ | fail | refine qb6 1 hr ?_ | refine qa ht fun _ => ?_) <;> (try refine ev_ ?_)) | with_reducible exact ti_)
     all_goals rfl
    ·rw [if_pos he, if_neg h5]
     repeat' (first | refine vs_ ?_ | ((first | refine vr_ ?_ | fail) <;> (try simp only [hb, he, h5, go_sem, ↓reduceIte])) | ((first | (refine cs_ ?_ ?_ <;> intro hc) | refine cj_ ?_ | fail | refine qb6 1 hr ?_ | refine qa ht fun _ => ?_) <;> (try refine ev_ ?_)) | with_reducible exact ti_)
     all_goals rfl
   ·rw [if_neg he]
    repeat' (first | refine vs_ ?_ | ((first | refine vr_ ?_ | fail) <;> (try simp only [hb, he, go_sem, ↓reduceIte])) | ((first | (refine cs_ ?_ ?_ <;> intro hc) | refine cj_ ?_ | fail | refine qb6 1 hr ?_ | refine qa ht fun _ => ?_) <;> (try refine ev_ ?_)) | with_reducible exact ti_)
    all_goals rfl
theorem qbej {s : List UInt8} {t : Ty} {r : Rd} (h1 : qfn s = (t, r)) (h2 : s.length < 1000) (h3 : s.all (fun b => decide (b.toNat < 128)) = true) (h4 : szY t ≤ 20000) (h5 : dpY t ≤ 300) (h6 : (qb4 t).length ≤ 1000) : rdOK s :=
 ⟨⟨by omega, fun b hb => by have := List.all_eq_true.1 h3 b hb; simpa using this⟩, by rw [h1]; exact h4, by rw [h1]; exact h5, by rw [h1]; unfold Big; dsimp only; omega⟩
set_option maxRecDepth 4000

theorem qop {l : List Pd} (h : fewP l = true) : qg Tryz.prog 16 [.sl 4 (qu l)] (.int .i64 1) := qff (qbp2 l) (by rw [h]; rfl)
theorem q18 {l : List Pd} (h : fewP l = false) : qg Tryz.prog 16 [.sl 4 (qu l)] (.int .i64 0) := qff (qbp2 l) (by rw [h]; rfl)
def fewI (l : List Ins) : Bool := decide (l.length ≤ 12) && l.all fun x => fewP x.ps && decide (x.n ≤ 200)
theorem qbm1 (l : List Ins) : qg Tryz.prog 6 [.sl 4 (qbo l)] (.int .i64 (if fewI l = true then 1 else 0)) := by
 refine qd c0cb (by simp) (by simp only [go_sem]) rfl fun hw => ?_
 have hl := (qe6 hw.1).1
 have h10 : decide ((1 : Int) = 0) = false := rfl
 by_cases h12 : l.length ≤ 12
 case neg =>
  have : fewI l = false := by rw [fewI, decide_eq_false h12, Bool.false_and]
  rw [this]
  repeat' (first | refine vs_ ?_ | ((first | refine vr_ ?_ | (refine cs_ ?_ ?_ <;> intro hc) | refine cj_ ?_ | simp (disch := omega) only [encs_getN, qb]) <;> (try refine ev_ ?_)) | with_reducible exact ti_)
  all_goals first | (exfalso; omega) | rfl
 repeat' (first | refine vs_ ?_ | ((first | refine vr_ ?_ | (refine cs_ ?_ ?_ <;> intro hc) | refine cj_ ?_ | simp (disch := omega) only [encs_getN, qb]) <;> (try refine ev_ ?_)) | with_reducible exact ti_)
 all_goals try (exfalso; omega)
 refine qm (S := Nat) (fun i => i ≤ l.length ∧ (l.take i).all (fun x => fewP x.ps && decide (x.n ≤ 200)) = true) (fun i => (⟨[(0, .sl 4 (qbo l)), (3, .int .i64 i)], []⟩, [])) (fun i => l.length - i) ?_ fun i hi => ?_
 ·refine qh 0 [] ⟨Nat.zero_le _, rfl⟩ rfl (by simp) ?_ ?_ ?_ <;> (try refine ev_ ?_) <;> (try with_reducible exact ti_) <;> (try simp (disch := omega) only [qb, and_true, true_and])
 ·obtain ⟨hi, ha⟩ := hi
  by_cases hlt : i < l.length
  ·have hg := qcl hlt
   have hnx : (l.take (i + 1)).all (fun x => fewP x.ps && decide (x.n ≤ 200)) = (fewP (l.getD i I0).ps && decide ((l.getD i I0).n ≤ 200)) := by
    have h1 : l.take (i + 1) = l.take i ++ [l.getD i I0] := by
     rw [List.take_add_one, List.getD_eq_getElem?_getD, List.getElem?_eq_getElem hlt]; rfl
    rw [h1, List.all_append, ha]; simp
   have hno : (fewP (l.getD i I0).ps && decide ((l.getD i I0).n ≤ 200)) = false → fewI l = false := fun h => by
    cases hf : fewI l with
    | false => rfl
    | true =>
      rw [fewI, Bool.and_eq_true] at hf
      rw [List.all_eq_true.1 hf.2 _ (qnw hlt)] at h
      cases h
   cases hp : fewP (l.getD i I0).ps with
   | false =>
     rw [hno (by rw [hp]; rfl)]
     repeat' (first | refine vs_ ?_ | ((first | refine vr_ ?_ | fail) <;> (try simp only [hg, go_sem, ↓reduceIte])) | ((first | simp (disch := omega) only [hg] | (refine cs_ ?_ ?_ <;> intro hc) | refine cj_ ?_ | simp (disch := omega) only [encs_getN, qb] | refine qa (q18 hp) fun _ => ?_) <;> (try refine ev_ ?_)) | with_reducible exact ti_)
     all_goals try (exfalso; omega)
     all_goals rfl
   | true =>
     rw [hp, Bool.true_and] at hnx hno
     by_cases hn : (l.getD i I0).n ≤ 200
     ·repeat' (first | refine vs_ ?_ | ((first | refine vr_ ?_ | fail) <;> (try simp (disch := first | omega | (simp only [List.length_set, List.length_append, List.length_cons, List.length_nil]; done) | (simp only [List.length_set, List.length_append, List.length_cons, List.length_nil]; omega)) only [h10, hg, qb, go_sem, ↓reduceIte])) | ((first | simp (disch := omega) only [hg] | (refine cs_ ?_ ?_ <;> intro hc) | refine cj_ ?_ | simp (disch := omega) only [encs_getN, qb] | refine qa (qop hp) fun _ => ?_) <;> (try refine ev_ ?_)) | with_reducible exact ti_)
      all_goals try (exfalso; omega)
      refine qh (i + 1) [] ⟨⟨by omega, by rw [hnx, decide_eq_true hn]⟩, by omega⟩ rfl (by simp) ?_ ?_ ?_ <;> (try refine ev_ ?_) <;> (try with_reducible exact ti_) <;> (try simp (disch := omega) only [qb, and_true, true_and])
     ·rw [hno (decide_eq_false hn)]
      repeat' (first | refine vs_ ?_ | ((first | refine vr_ ?_ | fail) <;> (try simp (disch := first | omega | (simp only [List.length_set, List.length_append, List.length_cons, List.length_nil]; done) | (simp only [List.length_set, List.length_append, List.length_cons, List.length_nil]; omega)) only [h10, hg, qb, go_sem, ↓reduceIte])) | ((first | simp (disch := omega) only [hg] | (refine cs_ ?_ ?_ <;> intro hc) | refine cj_ ?_ | simp (disch := omega) only [encs_getN, qb] | refine qa (qop hp) fun _ => ?_) <;> (try refine ev_ ?_)) | with_reducible exact ti_)
      all_goals try (exfalso; omega)
      all_goals rfl
  ·have hie : i = l.length := by omega
   subst hie
   rw [List.take_length] at ha
   have : fewI l = true := by rw [fewI, decide_eq_true h12, ha]; rfl
   rw [this]
   repeat' (first | refine vs_ ?_ | ((first | refine vr_ ?_ | (refine cs_ ?_ ?_ <;> intro hc) | refine cj_ ?_ | simp (disch := omega) only [encs_getN, qb]) <;> (try refine ev_ ?_)) | with_reducible exact ti_)
   all_goals try (exfalso; omega)
theorem qek {l : List Ins} (h : fewI l = true) : qg Tryz.prog 6 [.sl 4 (qbo l)] (.int .i64 1) := qff (qbm1 l) (by rw [h]; rfl)
theorem qmp {l : List Ins} (h : fewI l = false) : qg Tryz.prog 6 [.sl 4 (qbo l)] (.int .i64 0) := qff (qbm1 l) (by rw [h]; rfl)
theorem q0k {l : List Pd} (hl : l.length ≤ maxLen) (h : fewP l = true) : l.length ≤ 30 ∧ ∀ p ∈ l, szY p.ty ≤ 20000 ∧ dpY p.ty ≤ 300 := by
 rw [fewP, Bool.and_eq_true, decide_eq_true_eq] at h
 refine ⟨h.1, fun p hp => ?_⟩
 have := quw (l := l.map Pd.ty) (by rw [List.length_map]; exact hl) h.2
 have hm : p.ty ∈ l.map Pd.ty := List.mem_map_of_mem hp
 have h1 := qez hm
 have h2 := qmg hm
 omega
def iX : Ins := ⟨[68], [84], 1, [⟨[67], Y0⟩]⟩
def iC : Ins := ⟨[67], [84], 0, []⟩
def wInt : Ty := ⟨[73, 110, 116], 0, []⟩
def wTI : Ty := ⟨[84], 0, [wInt]⟩
theorem qbs2 : qg Tryz.prog 24 [.str [84, 32, 73, 110, 116]] (.tup [encY wTI, .int .i64 0]) := by
 have h := qti (qbej (s := [84, 32, 73, 110, 116]) (t := wTI) (r := ⟨[], 0, false⟩) rfl (by decide) (by decide) (by decide) (by decide) (by decide))
 have e : qz1 [84, 32, 73, 110, 116] = (wTI, 0) := rfl
 rw [e] at h
 exact h
theorem qbs1 : qg Tryz.prog 17 [.sl 4 (qbo [iX]), encP ⟨[68], wTI⟩] (.tup [.int .i64 0, .sl 4 [encP ⟨[67], wInt⟩], .bool true]) := by
 have h := q0s (l := [iX]) (p := ⟨[68], wTI⟩) (by intro x hx; simp at hx; subst hx; exact ⟨by decide, by decide⟩) (by decide) (by decide)
 have e : byI [iX] ⟨[68], wTI⟩ = (0, [⟨[67], wInt⟩], true) := by rfl
 rwa [e] at h
theorem qbsc : qg Tryz.prog 8 [.sl 4 (qbo [iX, iC, iX])] (.tup [.int .i64 0, .int .i64 2, .bool true]) := qge [iX, iC, iX]
theorem qbs4 : qg Tryz.prog 10 [.sl 4 (qbo [iX]), .str [68], .str [84]] (.tup [.int .i64 0, .bool true]) := qg0 [iX] [68] [84]
theorem qbsz : qg Tryz.prog 12 [encI iX] (.int .i64 0) := qd5 iX
theorem qbsq : qg Tryz.prog 12 [encI I0] (.int .i64 10) := qd5 I0
def aTxt : List UInt8 := [105, 110, 115, 116, 97, 110, 99, 101, 32, 67, 32, 97, 32, 61, 62, 32, 68, 32, 40, 84, 32, 97, 41]
theorem qbsh : qg Tryz.prog 14 [encI iX] (.str aTxt) := by
 have h := qkq (x := iX) ⟨by intro p hp; simp [iX] at hp; subst hp; exact ⟨by decide, by decide, by decide⟩, by decide, by decide⟩
 have e : txtI iX = aTxt := by rfl
 rwa [e] at h
set_option maxHeartbeats 1000000 in
theorem qha : qg Tryz.prog 7 [] (.bool true) := by
 refine qd c0cc (by simp) rfl rfl fun hw => ?_
 repeat' (first | refine vs_ ?_ | ((first | refine vr_ ?_ | refine qa qbs2 fun _ => ?_ | refine qa qbs1 fun _ => ?_ | refine qa qbsc fun _ => ?_ | refine qa qbs4 fun _ => ?_ | refine qa qbsz fun _ => ?_ | refine qa qbsq fun _ => ?_ | refine qa qbsh fun _ => ?_ | (refine cs_ ?_ ?_ <;> intro hc) | refine cj_ ?_ | simp (disch := omega) only [encs_getN, qb]) <;> (try refine ev_ ?_)) | with_reducible exact ti_)
 ·rfl
 ·exact absurd rfl (by assumption)
end Go.Proofs.YtbbjelfnocmaoaaGreat
