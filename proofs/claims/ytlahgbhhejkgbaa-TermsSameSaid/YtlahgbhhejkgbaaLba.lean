/- Texts of this proof, joined. -/
import Derived.Test.YtlahgbhhejkgbaaLax
import Derived.Test.YtlahgbhhejkgbaaLaz
import Derived.Test.YtlahgbhhejkgbaaLas

/- the reader of terms: a term that is read -/
set_option maxRecDepth 4000
namespace Go.Proofs.Ytlahgbhhejkgbaa
open Go Go.RowKit Go.V
set_option linter.unusedVariables false
set_option linter.unusedSimpArgs false

theorem qtk {n : Nat} {r0 : Rd} {tg : Ty × Rd} (hA : ∀ m, m ≤ n → RA m) (hk0 : r0.s.length < 4294967281) (h0 : 0 ≤ r0.lv) (h1 : r0.lv ≤ 200) {Q : VE → AF → List Ent → Prop} {af : AF} {H : List Ent}
 (hat : At (Bool × Nat × Ty × Rd) (fun x => tmI n r0 tg x.2) tmSf 1 af H) (hQ : ∀ af H, At Unit (fun _ => True) (fun _ => tmSt (0, tg)) 1 af H → Q .nrm af H) : VI Try.prog none 67 1 (.block 0 (.loop qh0)) Q af H :=
 (qop (Q := Q) hA hk0 h0 h1 hat).mono fun e af H hq => by
  cases e with
  | nrm => exact hQ af H hq
  | _ => exact hq
theorem q9v {n : Nat} (hA : ∀ m, m ≤ n → RA m) (hT : ∀ m, m ≤ n → RT m) : RT (n + 1) := fun r hk h0 h1 hn => by
 by_cases hb : r.bad = true ∨ 200 < r.lv + 1
 ·rw [qcv, if_pos hb]
  exact qs5 hb h0 h1
 rw [qcv, if_neg hb]
 have hb1 : r.bad = false := by cases h : r.bad with | false => rfl | true => exact absurd (.inl h) hb
 have hb2 : ¬ 200 < r.lv + 1 := fun h => hb (.inr h)
 have hw : IntKind.i64.wrap (r.lv + 1) = r.lv + 1 := qbg (by omega) (by omega)
 have hatm := hA n (Nat.le_refl n) (lvR (r.lv + 1) r) hk (by show 0 ≤ r.lv + 1; omega) (by show r.lv + 1 ≤ 200; omega) (by show 3 * r.s.length + 1 ≤ n; omega)
 have hsf := ql7 (n := n) (by omega) (lvR (r.lv + 1) r)
 have hl : lvR (r.lv + 1) r = ⟨r.s, r.lv + 1, false⟩ := by rw [lvR, hb1]
 rw [hl] at hatm hsf ⊢
 generalize qb0 n ⟨r.s, r.lv + 1, false⟩ = p0 at hatm hsf ⊢
 have hsm := qeh ⟨hsf.1, hsf.2.1⟩ (qu9 n p0.1 p0.2) hsf.2.2
 generalize htg : qg3 n p0.1 p0.2 = tg at hsm ⊢
 have hks := q7a hsm hk
 obtain ⟨p1, p2, p3⟩ := hsf
 obtain ⟨s1, s2, s3⟩ := hsm
 dsimp only at p1 p2 p3 s1 s2 s3 hks
 refine qhi c0bo 1 (by simp) (by simp) ?_
 unfold k0bo
 refine qbs ?_
 repeat' (first | refine vs_ ?_ | ((first | refine vr_ ?_ | fail) <;> (try simp only [hw, hb2, decide_false, go_sem, ↓reduceIte])) | ((first | (refine cs_ ?_ ?_ <;> intro hc) | refine cj_ ?_ | simp (disch := omega) only [encs_getN, qc]) <;> (try refine ev_ ?_)) | with_reducible exact ti_)
 refine qp4 ?_
 (refine ev_ ?_; (try with_reducible exact ti_))
 refine ⟨_, [], [.ptr 1 0], rfl, ?_⟩
 refine qlc (S := Unit) (fun _ => True) (fun _ => (⟨[(1, .ptr 1 0), (2, .ptr 2 0)], dl1⟩, [rdE ⟨r.s, r.lv + 1, false⟩, .blk [.ptr 0 0], .blk z1Y])) ?_ fun _ _ => ?_
 ·repeat' (first | refine vs_ ?_ | ((first | refine vr_ ?_ | fail) <;> (try simp only [hb1, go_sem, ↓reduceIte])) | ((first | (refine cs_ ?_ ?_ <;> intro hc) | refine cj_ ?_ | simp (disch := omega) only [encs_getN, qc]) <;> (try refine ev_ ?_)) | with_reducible exact ti_)
  refine qt () [0, 1, 2] trivial rfl (by simp) ?_ ?_ ?_ <;> simp only [dl1, hb1] <;> (try refine ev_ ?_) <;> (try with_reducible exact ti_) <;> (try simp (disch := omega) only [qc, and_true, true_and])
 refine qlc (S := Unit) (fun _ => True) (fun _ => tmSf (false, n, p0.1, p0.2)) ?_ fun _ _ => ?_
 ·repeat' (first | refine vs_ ?_ | ((first | refine vr_ ?_ | refine qbm 0 hatm ?_ | (refine cs_ ?_ ?_ <;> intro hc) | refine cj_ ?_ | simp (disch := omega) only [encs_getN, qc]) <;> (try refine ev_ ?_)) | with_reducible exact ti_)
  refine qt () [0, 1, 2, 3] trivial rfl (by simp) ?_ ?_ ?_ <;> simp only [tmSf, tmSt, dl1, Bool.false_eq_true, if_false] <;> (try refine ev_ ?_) <;> (try with_reducible exact ti_) <;> (try simp (disch := omega) only [qc, and_true, true_and])
 have hin : tmI n ⟨r.s, r.lv + 1, false⟩ tg (n, p0.1, p0.2) := ⟨htg, by dsimp only; omega, Nat.le_refl _, by obtain ⟨j, q⟩ := p1; dsimp only; rw [q]; exact qb8 hk j, p2, by dsimp only; omega⟩
 have hat0 : At (Bool × Nat × Ty × Rd) (fun x => tmI n ⟨r.s, r.lv + 1, false⟩ tg x.2) tmSf 1 (tmSf (false, n, p0.1, p0.2)).1 (tmSf (false, n, p0.1, p0.2)).2 := by
  refine qt (false, n, p0.1, p0.2) [0, 1, 2, 3] hin rfl (by simp) ?_ ?_ ?_ <;> simp only [tmSf, tmSt, dl1, Bool.false_eq_true, if_false] <;> (try refine ev_ ?_) <;> (try with_reducible exact ti_) <;> (try simp (disch := omega) only [qc, and_true, true_and])
 refine qbs (qtk (r0 := ⟨r.s, r.lv + 1, false⟩) hA hk.1 (by dsimp only; omega) (by dsimp only; omega) hat0 fun af H hat => qpg hat fun _ _ => ?_)
 unfold tmSt
 obtain ⟨n', rfl⟩ : ∃ n', n = n' + 1 := ⟨n - 1, by omega⟩
 rw [qpd]
 cases hbt : tg.2.bad with
 | true =>
   rw [if_neg (by simp)]
   repeat' (first | refine vs_ ?_ | ((first | refine vr_ ?_ | fail) <;> (try simp only [hbt, go_sem, ↓reduceIte])) | ((first | (refine cs_ ?_ ?_ <;> intro hc) | refine cj_ ?_ | simp (disch := omega) only [encs_getN, qc]) <;> (try refine ev_ ?_)) | with_reducible exact ti_)
   refine qgt (r := ⟨tg.2.s, tg.2.lv, true⟩) (L := [.blk (yc tg.1), .blk (yc tg.1)]) (by dsimp only; omega) (by dsimp only; omega) rfl ?_
   (refine ev_ ?_; (try with_reducible exact ti_))
   all_goals (try rfl)
 | false =>
   cases hpt : pfx arrS tg.2.s with
   | false =>
     rw [if_neg (by simp)]
     repeat' (first | refine vs_ ?_ | ((first | refine vr_ ?_ | fail) <;> (try simp only [hbt, go_sem, ↓reduceIte])) | ((first | (refine cs_ ?_ ?_ <;> intro hc) | refine cj_ ?_ | simp (disch := omega) only [encs_getN, qc] | refine qbm 0 (qj0 (r := ⟨tg.2.s, tg.2.lv, false⟩) hpt) ?_) <;> (try refine ev_ ?_)) | with_reducible exact ti_)
     refine qgt (r := ⟨tg.2.s, tg.2.lv, false⟩) (L := [.blk (yc tg.1), .blk (yc tg.1)]) (by dsimp only; omega) (by dsimp only; omega) rfl ?_
     (refine ev_ ?_; (try with_reducible exact ti_))
     all_goals (try rfl)
   | true =>
     have hlp := qd5 hpt
     simp only [arrS, List.length_cons, List.length_nil] at hlp
     have htm := hT n' (by omega) (cutR 4 tg.2) (qb8 hks 4) (by show 0 ≤ tg.2.lv; omega) (by show tg.2.lv ≤ 200; omega) (by rw [qdz]; omega)
     have htl := (qtg (n := n') (by omega) (cutR 4 tg.2)).2.1
     have hct : cutR 4 tg.2 = ⟨tg.2.s.drop 4, tg.2.lv, false⟩ := by rw [cutR, hbt]
     rw [hct] at htm htl ⊢
     generalize qcv n' ⟨tg.2.s.drop 4, tg.2.lv, false⟩ = p2 at htm htl ⊢
     rw [if_pos ⟨rfl, rfl⟩]
     repeat' (first | refine vs_ ?_ | ((first | refine vr_ ?_ | fail) <;> (try simp only [hbt, go_sem, ↓reduceIte])) | ((first | (refine cs_ ?_ ?_ <;> intro hc) | refine cj_ ?_ | simp (disch := omega) only [encs_getN, qc] | refine qbm 0 (qhp (r := ⟨tg.2.s, tg.2.lv, false⟩) hpt) ?_ | refine q06 0 htm ?_) <;> (try refine ev_ ?_)) | with_reducible exact ti_)
     refine qgt (r := p2.2) (L := [.blk [.str [45, 62], .int .i64 0, .lit 3 [encY tg.1, encY p2.1]], .blk (yc tg.1)]) (by dsimp only at htl; omega) (by dsimp only at htl; omega) rfl ?_
     (refine ev_ ?_; (try with_reducible exact ti_))
     exact ⟨rfl, rfl⟩
theorem q8l : ∀ N, (∀ n, n ≤ N → RA n) ∧ ∀ n, n ≤ N → RT n := fun N => by
 induction N with
 | zero => exact ⟨fun n hn r _ _ _ h => by omega, fun n hn r _ _ _ h => by omega⟩
 | succ N ih =>
   have hT : RT (N + 1) := q9v ih.1 ih.2
   have hA : RA (N + 1) := q9o (ih.2 N (Nat.le_refl N))
   refine ⟨fun n hn => ?_, fun n hn => ?_⟩
   ·rcases Nat.lt_or_ge n (N + 1) with h | h
    ·exact ih.1 n (by omega)
    ·rw [show n = N + 1 by omega]; exact hA
   ·rcases Nat.lt_or_ge n (N + 1) with h | h
    ·exact ih.2 n (by omega)
    ·rw [show n = N + 1 by omega]; exact hT
theorem qk1 {n : Nat} {r : Rd} (hk : ascS r.s) (h0 : 0 ≤ r.lv) (h1 : r.lv ≤ 200) (hn : 3 * r.s.length + 2 ≤ n) : VM Try.prog 53 (rdE r) (rdE (qcv n r).2) [.ptr 0 0] (encY (qcv n r).1) := (q8l n).2 n (Nat.le_refl n) r hk h0 h1 hn
def qde (s : List UInt8) : Ty × Rd := qcv (3 * s.length + 2) ⟨s, 0, false⟩
def qki (s : List UInt8) : Ty × Int := if (qde s).2.bad = true then (Y0, 5) else if (qde s).2.s = [] then (if qet (qde s).1 = s then ((qde s).1, 0) else (Y0, 5)) else (Y0, 5)
def rdOK (s : List UInt8) : Prop := ascS s ∧ szY (qde s).1 ≤ 20000 ∧ dpY (qde s).1 ≤ 300 ∧ (qet (qde s).1).length ≤ Big
theorem qhs {s : List UInt8} (h : rdOK s) : ql Try.prog 29 [.str s] (.tup [encY (qki s).1, .int .i64 (qki s).2]) := by
 refine qf c0bp (by simp) (by simp only [go_sem]) (by simp [AV.bd, AV.bds, qb4]) fun hw => ?_
 obtain ⟨h1, h2, h3, h4⟩ := h
 have hr := qk1 (n := 3 * s.length + 2) (r := ⟨s, 0, false⟩) h1 (Int.le_refl 0) (show (0 : Int) ≤ 200 by decide) (Nat.le_refl _)
 have ht := qeu h2 h3 h4
 have hY : qki s = if (qde s).2.bad = true then (Y0, 5) else if (qde s).2.s = [] then (if qet (qde s).1 = s then ((qde s).1, 0) else (Y0, 5)) else (Y0, 5) := rfl
 change VM _ _ _ (rdE (qde s).2) _ (encY (qde s).1) at hr
 generalize qde s = p at *
 cases hb : p.2.bad with
 | true =>
   rw [hb, if_pos rfl] at hY
   rw [hY]
   repeat' (first | refine vs_ ?_ | ((first | refine vr_ ?_ | fail) <;> (try simp only [hb, go_sem, ↓reduceIte])) | ((first | (refine cs_ ?_ ?_ <;> intro hc) | refine cj_ ?_ | fail | refine qbm 1 hr ?_) <;> (try refine ev_ ?_)) | with_reducible exact ti_)
   all_goals rfl
 | false =>
   rw [hb, if_neg (by simp)] at hY
   rw [hY]
   by_cases he : p.2.s = []
   ·by_cases h5 : qet p.1 = s
    ·rw [if_pos he, if_pos h5]
     repeat' (first | refine vs_ ?_ | ((first | refine vr_ ?_ | fail) <;> (try simp only [hb, he, h5, go_sem, ↓reduceIte])) | ((first | (refine cs_ ?_ ?_ <;> intro hc) | refine cj_ ?_ | fail | refine qbm 1 hr ?_ | refine qa ht fun _ => ?_) <;> (try refine ev_ ?_)) | with_reducible exact ti_)
     all_goals rfl
    ·rw [if_pos he, if_neg h5]
     repeat' (first | refine vs_ ?_ | ((first | refine vr_ ?_ | fail) <;> (try simp only [hb, he, h5, go_sem, ↓reduceIte])) | ((first | (refine cs_ ?_ ?_ <;> intro hc) | refine cj_ ?_ | fail | refine qbm 1 hr ?_ | refine qa ht fun _ => ?_) <;> (try refine ev_ ?_)) | with_reducible exact ti_)
     all_goals rfl
   ·rw [if_neg he]
    repeat' (first | refine vs_ ?_ | ((first | refine vr_ ?_ | fail) <;> (try simp only [hb, he, go_sem, ↓reduceIte])) | ((first | (refine cs_ ?_ ?_ <;> intro hc) | refine cj_ ?_ | fail | refine qbm 1 hr ?_ | refine qa ht fun _ => ?_) <;> (try refine ev_ ?_)) | with_reducible exact ti_)
    all_goals rfl
theorem qoe {s : List UInt8} {t : Ty} {r : Rd} (h1 : qde s = (t, r)) (h2 : s.length < 1000) (h3 : s.all (fun b => decide (b.toNat < 128)) = true) (h4 : szY t ≤ 20000) (h5 : dpY t ≤ 300) (h6 : (qet t).length ≤ 1000) : rdOK s :=
 ⟨⟨by omega, fun b hb => by have := List.all_eq_true.1 h3 b hb; simpa using this⟩, by rw [h1]; exact h4, by rw [h1]; exact h5, by rw [h1]; unfold Big; dsimp only; omega⟩
set_option maxRecDepth 4000

def wQ : Ty := ⟨[84], 0, [⟨[], -1, []⟩]⟩
def F16 : Ty := fun2 Y0 (fun2 wQ Y0)
def R16 : Ty := fun2 Y0 wQ
theorem tx1 : qet R16 = [97, 32, 45, 62, 32, 84, 32, 63, 48] := by decide +kernel
theorem tx2 : qet F16 = [97, 32, 45, 62, 32, 84, 32, 63, 48, 32, 45, 62, 32, 97] := by decide +kernel
theorem rr1 : qde [97, 32, 45, 62, 32, 84, 32, 63, 48] = (R16, ⟨[], 0, false⟩) := by rfl
theorem rr2 : qde [97, 32, 32, 45, 62, 32, 98] = (⟨[], 0, [⟨[], 0, []⟩]⟩, ⟨[32, 45, 62, 32, 98], 0, true⟩) := by rfl
theorem ry1 : qki [97, 32, 45, 62, 32, 84, 32, 63, 48] = (R16, 0) := by rw [qki, rr1]; exact (if_neg (by decide)).trans ((if_pos rfl).trans (if_pos tx1))
theorem ry2 : qki [97, 32, 32, 45, 62, 32, 98] = (Y0, 5) := by rw [qki, rr2]; exact if_pos rfl
theorem qsu : ql Try.prog 29 [.str [97, 32, 45, 62, 32, 84, 32, 63, 48]] (.tup [encY R16, .int .i64 0]) := by
 have h := qhs (s := [97, 32, 45, 62, 32, 84, 32, 63, 48]) (qoe rr1 (by decide) (by decide) (by decide) (by decide) (by rw [tx1]; decide))
 rwa [ry1] at h
theorem qsm : ql Try.prog 29 [.str [97, 32, 32, 45, 62, 32, 98]] (.tup [encY Y0, .int .i64 5]) := by
 have h := qhs (s := [97, 32, 32, 45, 62, 32, 98]) (qoe rr2 (by decide) (by decide) (by decide) (by decide) (by decide +kernel))
 rwa [ry2] at h
theorem q45 : ql Try.prog 24 [.sl 3 (qj [Y0, wQ]), encY Y0] (encY F16) := qoo [Y0, wQ] Y0
theorem quf : ql Try.prog 25 [encY F16] (.tup [.sl 3 (qj [Y0, wQ]), encY Y0]) := qkm (t := F16) (by decide)
theorem qsi : ql Try.prog 31 [encY R16] (.str [97, 32, 45, 62, 32, 84, 32, 63, 48]) := by
 have h := qeu (t := R16) (by decide) (by decide) (by rw [tx1]; decide)
 rwa [tx1] at h
theorem qub : ql Try.prog 31 [encY F16] (.str [97, 32, 45, 62, 32, 84, 32, 63, 48, 32, 45, 62, 32, 97]) := by
 have h := qeu (t := F16) (by decide) (by decide) (by rw [tx2]; decide)
 rwa [tx2] at h
theorem q16 : ql Try.prog 22 [encY Y0, encY Y0] (.bool true) := qex Y0 Y0
def wArr : Ty := ⟨[45, 62], 0, []⟩
def wFix : Ty := ⟨[33, 51], 0, []⟩
theorem q0y : ql Try.prog 11 [encY F16] (.bool true) := by
 have h := qcd (t := F16) (by decide) (by decide)
 rwa [show qdu F16 = true by decide +kernel] at h
theorem qwc : ql Try.prog 11 [encY wArr] (.bool false) := by
 have h := qcd (t := wArr) (by decide) (by decide)
 rwa [show qdu wArr = false by decide +kernel] at h
theorem qzm : ql Try.prog 11 [encY wFix] (.bool true) := by
 have h := qcd (t := wFix) (by decide) (by decide)
 rwa [show qdu wFix = true by decide +kernel] at h
theorem qxt : ql Try.prog 13 [encY F16] (.int .i64 6) := by
 have h := qmk F16
 rw [qjr F16 0 1 (by decide) (by decide)] at h
 exact h
theorem qrs : ql Try.prog 15 [encY wQ] (.int .i64 2) := by
 have h := qkd wQ
 rw [qjy wQ 0 1 (by decide) (by decide) (by decide)] at h
 exact h
theorem q1i : ql Try.prog 20 [encY wQ, .int .i64 (-1)] (.bool true) := qiz wQ (-1)
theorem q0d : ql Try.prog 20 [encY wQ, .int .i64 0] (.bool false) := qiz wQ 0
theorem qw8 : ql Try.prog 18 [encY F16] (.sl 1 (ints [0, -1])) := qnz F16 (by decide)
theorem qzn : ql Try.prog 17 [.sl 1 (ints [0, -1]), .sl 1 (ints [0, -1])] (.bool true) := qmj [0, -1] [0, -1]
theorem qh8 : ql Try.prog 10 [] (.bool true) := by
 refine qf c0b (by simp) rfl rfl fun hw => ?_
 have h2 : ((qj [Y0, wQ]).length : Int) = 2 := rfl
 repeat' (first | refine vs_ ?_ | ((first | refine vr_ ?_ | fail) <;> (try simp only [h2, go_sem, ↓reduceIte])) | ((first | (refine cs_ ?_ ?_ <;> intro hc) | refine cj_ ?_ | fail | refine qa q45 fun _ => ?_ | refine qa quf fun _ => ?_ | refine qa qsu fun _ => ?_ | refine qa qsm fun _ => ?_ | refine qa qsi fun _ => ?_ | refine qa q16 fun _ => ?_ | refine qa qub fun _ => ?_ | refine qa q0y fun _ => ?_ | refine qa qwc fun _ => ?_ | refine qa qzm fun _ => ?_ | refine qa qxt fun _ => ?_ | refine qa qrs fun _ => ?_ | refine qa q1i fun _ => ?_ | refine qa q0d fun _ => ?_ | refine qa qw8 fun _ => ?_ | refine qa qzn fun _ => ?_) <;> (try refine ev_ ?_)) | with_reducible exact ti_)
 exact absurd rfl hc
set_option maxRecDepth 4000

theorem qhz {f : FuncId} {args : List AV} {r r' : AV} (h : ql Try.prog f args r) (e : r = r') : ql Try.prog f args r' := e ▸ h
theorem qof {l : List Ty} (h : qhc l = true) : ql Try.prog 9 [.sl 3 (qj l)] (.int .i64 1) := qhz (q7d l) (by rw [h]; rfl)
theorem qvn {l : List Ty} (h : qhc l = false) : ql Try.prog 9 [.sl 3 (qj l)] (.int .i64 0) := qhz (q7d l) (by rw [h]; rfl)
set_option maxHeartbeats 2000000 in
theorem qtf (a b : Ty) : ql Try.prog 4 [encY a, encY b] (.bool true) := by
 refine qf c0a (by simp) (by simp only [AV.bds, AV.bd, qb4, Bool.and_true]) rfl fun hw => ?_
 have h10 : decide ((1 : Int) = 0) = false := rfl
 by_cases hf : qhc [a, b] = true
 case neg =>
  have hf : qhc [a, b] = false := by simpa using hf
  repeat' (first | refine vs_ ?_ | ((first | refine vr_ ?_ | refine qa (qvn hf) fun _ => ?_ | refine qa qh8 fun _ => ?_ | refine qi (qvn hf) ?_ | refine qi qh8 ?_ | (refine cs_ ?_ ?_ <;> intro hc) | refine cj_ ?_ | fail) <;> (try refine ev_ ?_)) | with_reducible exact ti_)
 have a1 := qex a b
 have a2 := qnt a b
 have a3 := qhz (qex a a) (r' := .bool true) (by rw [qqr])
 generalize qeb a b = x at a1 a2
 repeat' (first | refine vs_ ?_ | ((first | refine vr_ ?_ | fail) <;> (try simp only [h10, go_sem, ↓reduceIte])) | ((first | (refine cs_ ?_ ?_ <;> intro hc) | refine cj_ ?_ | fail | refine qa (qof hf) fun _ => ?_ | refine qi (qof hf) ?_) <;> (try refine ev_ ?_)) | with_reducible exact ti_)
 all_goals try (exfalso; revert hc; simp; done)
 all_goals (cases x)
 all_goals (repeat' (first | refine vs_ ?_ | ((first | refine vr_ ?_ | refine qa a1 fun _ => ?_ | refine qa a2 fun _ => ?_ | refine qa a3 fun _ => ?_ | refine qa qh8 fun _ => ?_ | refine qi a1 ?_ | refine qi a2 ?_ | refine qi a3 ?_ | refine qi qh8 ?_ | (refine cs_ ?_ ?_ <;> intro hc) | refine cj_ ?_ | fail) <;> (try refine ev_ ?_)) | with_reducible exact ti_))
 all_goals (exfalso; revert hc; simp)
end Go.Proofs.Ytlahgbhhejkgbaa
