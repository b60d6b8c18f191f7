/- Texts of this proof, joined. -/
import Derived.Test.YtlahgbhhejkgbaaKax
import Derived.Test.YtlahgbhhejkgbaaKaz
import Derived.Test.YtlahgbhhejkgbaaKas

/- the reader of terms: a term that is read -/
set_option maxRecDepth 4000
namespace Go.Proofs.Ytlahgbhhejkgbaa
open Go Go.RowKit Go.V
set_option linter.unusedVariables false
set_option linter.unusedSimpArgs false

theorem qtr {n : Nat} {r0 : Rd} {tg : Ty × Rd} (hA : ∀ m, m ≤ n → RA m) (hk0 : r0.s.length < 4294967281) (h0 : 0 ≤ r0.lv) (h1 : r0.lv ≤ 200) {Q : VE → AF → List Ent → Prop} {af : AF} {H : List Ent}
 (hat : At (Bool × Nat × Ty × Rd) (fun x => tmI n r0 tg x.2) tmSf 1 af H) (hQ : ∀ af H, At Unit (fun _ => True) (fun _ => tmSt (0, tg)) 1 af H → Q .nrm af H) : VI Try.prog none 67 1 (.block 0 (.loop qjm)) Q af H :=
 (qrl (Q := Q) hA hk0 h0 h1 hat).mono fun e af H hq => by
  cases e with
  | nrm => exact hQ af H hq
  | _ => exact hq
theorem qbc6 {n : Nat} (hA : ∀ m, m ≤ n → RA m) (hT : ∀ m, m ≤ n → RT m) : RT (n + 1) := fun r hk h0 h1 hn => by
 by_cases hb : r.bad = true ∨ 200 < r.lv + 1
 ·rw [qc8, if_pos hb]
  exact qs0 hb h0 h1
 rw [qc8, if_neg hb]
 have hb1 : r.bad = false := by cases h : r.bad with | false => rfl | true => exact absurd (.inl h) hb
 have hb2 : ¬ 200 < r.lv + 1 := fun h => hb (.inr h)
 have hw : IntKind.i64.wrap (r.lv + 1) = r.lv + 1 := q8 (by omega) (by omega)
 have hatm := hA n (Nat.le_refl n) (lvR (r.lv + 1) r) hk (by show 0 ≤ r.lv + 1; omega) (by show r.lv + 1 ≤ 200; omega) (by show 3 * r.s.length + 1 ≤ n; omega)
 have hsf := qnb (n := n) (by omega) (lvR (r.lv + 1) r)
 have hl : lvR (r.lv + 1) r = ⟨r.s, r.lv + 1, false⟩ := by rw [lvR, hb1]
 rw [hl] at hatm hsf ⊢
 generalize qb8 n ⟨r.s, r.lv + 1, false⟩ = p0 at hatm hsf ⊢
 have hsm := qem ⟨hsf.1, hsf.2.1⟩ (qvk n p0.1 p0.2) hsf.2.2
 generalize htg : qhz n p0.1 p0.2 = tg at hsm ⊢
 have hks := q84 hsm hk
 obtain ⟨p1, p2, p3⟩ := hsf
 obtain ⟨s1, s2, s3⟩ := hsm
 dsimp only at p1 p2 p3 s1 s2 s3 hks
 refine qih c0cd 1 (by simp) (by simp) ?_
 unfold k0cd
 refine qby ?_
 repeat' (first | refine vs_ ?_ | ((first | refine vr_ ?_ | fail) <;> (try simp only [hw, hb2, decide_false, go_sem, ↓reduceIte])) | ((first | (refine cs_ ?_ ?_ <;> intro hc) | refine cj_ ?_ | simp (disch := omega) only [encs_getN, qb]) <;> (try refine ev_ ?_)) | with_reducible exact ti_)
 refine qsa ?_
 (refine ev_ ?_; (try with_reducible exact ti_))
 refine ⟨_, [], [.ptr 1 0], rfl, ?_⟩
 refine qlt (S := Unit) (fun _ => True) (fun _ => (⟨[(1, .ptr 1 0), (2, .ptr 2 0)], dl1⟩, [rdE ⟨r.s, r.lv + 1, false⟩, .blk [.ptr 0 0], .blk z1Y])) ?_ fun _ _ => ?_
 ·repeat' (first | refine vs_ ?_ | ((first | refine vr_ ?_ | fail) <;> (try simp only [hb1, go_sem, ↓reduceIte])) | ((first | (refine cs_ ?_ ?_ <;> intro hc) | refine cj_ ?_ | simp (disch := omega) only [encs_getN, qb]) <;> (try refine ev_ ?_)) | with_reducible exact ti_)
  refine qn () [0, 1, 2] trivial rfl (by simp) ?_ ?_ ?_ <;> simp only [dl1, hb1] <;> (try refine ev_ ?_) <;> (try with_reducible exact ti_) <;> (try simp (disch := omega) only [qb, and_true, true_and])
 refine qlt (S := Unit) (fun _ => True) (fun _ => tmSf (false, n, p0.1, p0.2)) ?_ fun _ _ => ?_
 ·repeat' (first | refine vs_ ?_ | ((first | refine vr_ ?_ | refine qbs 0 hatm ?_ | (refine cs_ ?_ ?_ <;> intro hc) | refine cj_ ?_ | simp (disch := omega) only [encs_getN, qb]) <;> (try refine ev_ ?_)) | with_reducible exact ti_)
  refine qn () [0, 1, 2, 3] trivial rfl (by simp) ?_ ?_ ?_ <;> simp only [tmSf, tmSt, dl1, Bool.false_eq_true, if_false] <;> (try refine ev_ ?_) <;> (try with_reducible exact ti_) <;> (try simp (disch := omega) only [qb, and_true, true_and])
 have hin : tmI n ⟨r.s, r.lv + 1, false⟩ tg (n, p0.1, p0.2) := ⟨htg, by dsimp only; omega, Nat.le_refl _, by obtain ⟨j, q⟩ := p1; dsimp only; rw [q]; exact qcj hk j, p2, by dsimp only; omega⟩
 have hat0 : At (Bool × Nat × Ty × Rd) (fun x => tmI n ⟨r.s, r.lv + 1, false⟩ tg x.2) tmSf 1 (tmSf (false, n, p0.1, p0.2)).1 (tmSf (false, n, p0.1, p0.2)).2 := by
  refine qn (false, n, p0.1, p0.2) [0, 1, 2, 3] hin rfl (by simp) ?_ ?_ ?_ <;> simp only [tmSf, tmSt, dl1, Bool.false_eq_true, if_false] <;> (try refine ev_ ?_) <;> (try with_reducible exact ti_) <;> (try simp (disch := omega) only [qb, and_true, true_and])
 refine qby (qtr (r0 := ⟨r.s, r.lv + 1, false⟩) hA hk.1 (by dsimp only; omega) (by dsimp only; omega) hat0 fun af H hat => qqd hat fun _ _ => ?_)
 unfold tmSt
 obtain ⟨n', rfl⟩ : ∃ n', n = n' + 1 := ⟨n - 1, by omega⟩
 rw [qov]
 cases hbt : tg.2.bad with
 | true =>
   rw [if_neg (by simp)]
   repeat' (first | refine vs_ ?_ | ((first | refine vr_ ?_ | fail) <;> (try simp only [hbt, go_sem, ↓reduceIte])) | ((first | (refine cs_ ?_ ?_ <;> intro hc) | refine cj_ ?_ | simp (disch := omega) only [encs_getN, qb]) <;> (try refine ev_ ?_)) | with_reducible exact ti_)
   refine qgf (r := ⟨tg.2.s, tg.2.lv, true⟩) (L := [.blk (yc tg.1), .blk (yc tg.1)]) (by dsimp only; omega) (by dsimp only; omega) rfl ?_
   (refine ev_ ?_; (try with_reducible exact ti_))
   all_goals (try rfl)
 | false =>
   cases hpt : pfx arrS tg.2.s with
   | false =>
     rw [if_neg (by simp)]
     repeat' (first | refine vs_ ?_ | ((first | refine vr_ ?_ | fail) <;> (try simp only [hbt, go_sem, ↓reduceIte])) | ((first | (refine cs_ ?_ ?_ <;> intro hc) | refine cj_ ?_ | simp (disch := omega) only [encs_getN, qb] | refine qbs 0 (qj0 (r := ⟨tg.2.s, tg.2.lv, false⟩) hpt) ?_) <;> (try refine ev_ ?_)) | with_reducible exact ti_)
     refine qgf (r := ⟨tg.2.s, tg.2.lv, false⟩) (L := [.blk (yc tg.1), .blk (yc tg.1)]) (by dsimp only; omega) (by dsimp only; omega) rfl ?_
     (refine ev_ ?_; (try with_reducible exact ti_))
     all_goals (try rfl)
   | true =>
     have hlp := qej hpt
     simp only [arrS, List.length_cons, List.length_nil] at hlp
     have htm := hT n' (by omega) (cutR 4 tg.2) (qcj hks 4) (by show 0 ≤ tg.2.lv; omega) (by show tg.2.lv ≤ 200; omega) (by rw [qea]; omega)
     have htl := (qsk (n := n') (by omega) (cutR 4 tg.2)).2.1
     have hct : cutR 4 tg.2 = ⟨tg.2.s.drop 4, tg.2.lv, false⟩ := by rw [cutR, hbt]
     rw [hct] at htm htl ⊢
     generalize qc8 n' ⟨tg.2.s.drop 4, tg.2.lv, false⟩ = p2 at htm htl ⊢
     rw [if_pos ⟨rfl, rfl⟩]
     repeat' (first | refine vs_ ?_ | ((first | refine vr_ ?_ | fail) <;> (try simp only [hbt, go_sem, ↓reduceIte])) | ((first | (refine cs_ ?_ ?_ <;> intro hc) | refine cj_ ?_ | simp (disch := omega) only [encs_getN, qb] | refine qbs 0 (qif (r := ⟨tg.2.s, tg.2.lv, false⟩) hpt) ?_ | refine qzk 0 htm ?_) <;> (try refine ev_ ?_)) | with_reducible exact ti_)
     refine qgf (r := p2.2) (L := [.blk [.str [45, 62], .int .i64 0, .lit 3 [encY tg.1, encY p2.1]], .blk (yc tg.1)]) (by dsimp only at htl; omega) (by dsimp only at htl; omega) rfl ?_
     (refine ev_ ?_; (try with_reducible exact ti_))
     exact ⟨rfl, rfl⟩
theorem qbbu : ∀ N, (∀ n, n ≤ N → RA n) ∧ ∀ n, n ≤ N → RT n := fun N => by
 induction N with
 | zero => exact ⟨fun n hn r _ _ _ h => by omega, fun n hn r _ _ _ h => by omega⟩
 | succ N ih =>
   have hT : RT (N + 1) := qbc6 ih.1 ih.2
   have hA : RA (N + 1) := qbdd (ih.2 N (Nat.le_refl N))
   refine ⟨fun n hn => ?_, fun n hn => ?_⟩
   ·rcases Nat.lt_or_ge n (N + 1) with h | h
    ·exact ih.1 n (by omega)
    ·rw [show n = N + 1 by omega]; exact hA
   ·rcases Nat.lt_or_ge n (N + 1) with h | h
    ·exact ih.2 n (by omega)
    ·rw [show n = N + 1 by omega]; exact hT
theorem qli {n : Nat} {r : Rd} (hk : ascS r.s) (h0 : 0 ≤ r.lv) (h1 : r.lv ≤ 200) (hn : 3 * r.s.length + 2 ≤ n) : VM Try.prog 53 (rdE r) (rdE (qc8 n r).2) [.ptr 0 0] (encY (qc8 n r).1) := (qbbu n).2 n (Nat.le_refl n) r hk h0 h1 hn
def qdt (s : List UInt8) : Ty × Rd := qc8 (3 * s.length + 2) ⟨s, 0, false⟩
def qlk (s : List UInt8) : Ty × Int := if (qdt s).2.bad = true then (Y0, 5) else if (qdt s).2.s = [] then (if qff (qdt s).1 = s then ((qdt s).1, 0) else (Y0, 5)) else (Y0, 5)
def rdOK (s : List UInt8) : Prop := ascS s ∧ szY (qdt s).1 ≤ 20000 ∧ dpY (qdt s).1 ≤ 300 ∧ (qff (qdt s).1).length ≤ Big
theorem qip {s : List UInt8} (h : rdOK s) : qj Try.prog 29 [.str s] (.tup [encY (qlk s).1, .int .i64 (qlk s).2]) := by
 refine qd c0ce (by simp) (by simp only [go_sem]) (by simp [AV.bd, AV.bds, qcl]) fun hw => ?_
 obtain ⟨h1, h2, h3, h4⟩ := h
 have hr := qli (n := 3 * s.length + 2) (r := ⟨s, 0, false⟩) h1 (Int.le_refl 0) (show (0 : Int) ≤ 200 by decide) (Nat.le_refl _)
 have ht := qfc h2 h3 h4
 have hY : qlk s = if (qdt s).2.bad = true then (Y0, 5) else if (qdt s).2.s = [] then (if qff (qdt s).1 = s then ((qdt s).1, 0) else (Y0, 5)) else (Y0, 5) := rfl
 change VM _ _ _ (rdE (qdt s).2) _ (encY (qdt s).1) at hr
 generalize qdt s = p at *
 cases hb : p.2.bad with
 | true =>
   rw [hb, if_pos rfl] at hY
   rw [hY]
   repeat' (first | refine vs_ ?_ | ((first | refine vr_ ?_ | fail) <;> (try simp only [hb, go_sem, ↓reduceIte])) | ((first | (refine cs_ ?_ ?_ <;> intro hc) | refine cj_ ?_ | fail | refine qbs 1 hr ?_) <;> (try refine ev_ ?_)) | with_reducible exact ti_)
   all_goals rfl
 | false =>
   rw [hb, if_neg (by simp)] at hY
   rw [hY]
   by_cases he : p.2.s = []
   ·by_cases h5 : qff p.1 = s
    ·rw [if_pos he, if_pos h5]
     repeat' (first | refine vs_ ?_ | ((first | refine vr_ ?_ | fail) <;> (try simp only [hb, he, h5, go_sem, ↓reduceIte])) | ((first | (refine cs_ ?_ ?_ <;> intro hc) | refine cj_ ?_ | fail | refine qbs 1 hr ?_ | refine qa ht fun _ => ?_) <;> (try refine ev_ ?_)) | with_reducible exact ti_)
     all_goals rfl
    ·rw [if_pos he, if_neg h5]
     repeat' (first | refine vs_ ?_ | ((first | refine vr_ ?_ | fail) <;> (try simp only [hb, he, h5, go_sem, ↓reduceIte])) | ((first | (refine cs_ ?_ ?_ <;> intro hc) | refine cj_ ?_ | fail | refine qbs 1 hr ?_ | refine qa ht fun _ => ?_) <;> (try refine ev_ ?_)) | with_reducible exact ti_)
     all_goals rfl
   ·rw [if_neg he]
    repeat' (first | refine vs_ ?_ | ((first | refine vr_ ?_ | fail) <;> (try simp only [hb, he, go_sem, ↓reduceIte])) | ((first | (refine cs_ ?_ ?_ <;> intro hc) | refine cj_ ?_ | fail | refine qbs 1 hr ?_ | refine qa ht fun _ => ?_) <;> (try refine ev_ ?_)) | with_reducible exact ti_)
    all_goals rfl
theorem qo9 {s : List UInt8} {t : Ty} {r : Rd} (h1 : qdt s = (t, r)) (h2 : s.length < 1000) (h3 : s.all (fun b => decide (b.toNat < 128)) = true) (h4 : szY t ≤ 20000) (h5 : dpY t ≤ 300) (h6 : (qff t).length ≤ 1000) : rdOK s :=
 ⟨⟨by omega, fun b hb => by have := List.all_eq_true.1 h3 b hb; simpa using this⟩, by rw [h1]; exact h4, by rw [h1]; exact h5, by rw [h1]; unfold Big; dsimp only; omega⟩
set_option maxRecDepth 4000

def wQ : Ty := ⟨[84], 0, [⟨[], -1, []⟩]⟩
def F16 : Ty := fun2 Y0 (fun2 wQ Y0)
def R16 : Ty := fun2 Y0 wQ
theorem tx1 : qff R16 = [97, 32, 45, 62, 32, 84, 32, 63, 48] := by decide +kernel
theorem tx2 : qff F16 = [97, 32, 45, 62, 32, 84, 32, 63, 48, 32, 45, 62, 32, 97] := by decide +kernel
theorem rr1 : qdt [97, 32, 45, 62, 32, 84, 32, 63, 48] = (R16, ⟨[], 0, false⟩) := by rfl
theorem rr2 : qdt [97, 32, 32, 45, 62, 32, 98] = (⟨[], 0, [⟨[], 0, []⟩]⟩, ⟨[32, 45, 62, 32, 98], 0, true⟩) := by rfl
theorem ry1 : qlk [97, 32, 45, 62, 32, 84, 32, 63, 48] = (R16, 0) := by rw [qlk, rr1]; exact (if_neg (by decide)).trans ((if_pos rfl).trans (if_pos tx1))
theorem ry2 : qlk [97, 32, 32, 45, 62, 32, 98] = (Y0, 5) := by rw [qlk, rr2]; exact if_pos rfl
theorem qvm : qj Try.prog 29 [.str [97, 32, 45, 62, 32, 84, 32, 63, 48]] (.tup [encY R16, .int .i64 0]) := by
 have h := qip (s := [97, 32, 45, 62, 32, 84, 32, 63, 48]) (qo9 rr1 (by decide) (by decide) (by decide) (by decide) (by rw [tx1]; decide))
 rwa [ry1] at h
theorem qtc : qj Try.prog 29 [.str [97, 32, 32, 45, 62, 32, 98]] (.tup [encY Y0, .int .i64 5]) := by
 have h := qip (s := [97, 32, 32, 45, 62, 32, 98]) (qo9 rr2 (by decide) (by decide) (by decide) (by decide) (by decide +kernel))
 rwa [ry2] at h
theorem q7j : qj Try.prog 24 [.sl 3 (qk [Y0, wQ]), encY Y0] (encY F16) := qpm [Y0, wQ] Y0
theorem qtb : qj Try.prog 25 [encY F16] (.tup [.sl 3 (qk [Y0, wQ]), encY Y0]) := qk6 (t := F16) (by decide)
theorem qvj : qj Try.prog 31 [encY R16] (.str [97, 32, 45, 62, 32, 84, 32, 63, 48]) := by
 have h := qfc (t := R16) (by decide) (by decide) (by rw [tx1]; decide)
 rwa [tx1] at h
theorem qvr : qj Try.prog 31 [encY F16] (.str [97, 32, 45, 62, 32, 84, 32, 63, 48, 32, 45, 62, 32, 97]) := by
 have h := qfc (t := F16) (by decide) (by decide) (by rw [tx2]; decide)
 rwa [tx2] at h
theorem q2c : qj Try.prog 22 [encY Y0, encY Y0] (.bool true) := qn5 Y0 Y0
def wArr : Ty := ⟨[45, 62], 0, []⟩
def wFix : Ty := ⟨[33, 51], 0, []⟩
theorem q35 : qj Try.prog 11 [encY F16] (.bool true) := by
 have h := qb3 (t := F16) (by decide) (by decide)
 rwa [show qcy F16 = true by decide +kernel] at h
theorem q0k : qj Try.prog 11 [encY wArr] (.bool false) := by
 have h := qb3 (t := wArr) (by decide) (by decide)
 rwa [show qcy wArr = false by decide +kernel] at h
theorem qy1 : qj Try.prog 11 [encY wFix] (.bool true) := by
 have h := qb3 (t := wFix) (by decide) (by decide)
 rwa [show qcy wFix = true by decide +kernel] at h
theorem q4u : qj Try.prog 13 [encY F16] (.int .i64 6) := by
 have h := qig F16
 rw [qg5 F16 0 1 (by decide) (by decide)] at h
 exact h
theorem qws : qj Try.prog 15 [encY wQ] (.int .i64 2) := by
 have h := qhb wQ
 rw [qg9 wQ 0 1 (by decide) (by decide) (by decide)] at h
 exact h
theorem qzx : qj Try.prog 20 [encY wQ, .int .i64 (-1)] (.bool true) := qgx wQ (-1)
theorem q5g : qj Try.prog 20 [encY wQ, .int .i64 0] (.bool false) := qgx wQ 0
theorem qye : qj Try.prog 18 [encY F16] (.sl 1 (ints [0, -1])) := qid F16 (by decide)
theorem q5h : qj Try.prog 17 [.sl 1 (ints [0, -1]), .sl 1 (ints [0, -1])] (.bool true) := qh5 [0, -1] [0, -1]
theorem qi4 : qj Try.prog 10 [] (.bool true) := by
 refine qd c0b (by simp) rfl rfl fun hw => ?_
 have h2 : ((qk [Y0, wQ]).length : Int) = 2 := rfl
 repeat' (first | refine vs_ ?_ | ((first | refine vr_ ?_ | fail) <;> (try simp only [h2, go_sem, ↓reduceIte])) | ((first | (refine cs_ ?_ ?_ <;> intro hc) | refine cj_ ?_ | fail | refine qa q7j fun _ => ?_ | refine qa qtb fun _ => ?_ | refine qa qvm fun _ => ?_ | refine qa qtc fun _ => ?_ | refine qa qvj fun _ => ?_ | refine qa q2c fun _ => ?_ | refine qa qvr fun _ => ?_ | refine qa q35 fun _ => ?_ | refine qa q0k fun _ => ?_ | refine qa qy1 fun _ => ?_ | refine qa q4u fun _ => ?_ | refine qa qws fun _ => ?_ | refine qa qzx fun _ => ?_ | refine qa q5g fun _ => ?_ | refine qa qye fun _ => ?_ | refine qa q5h fun _ => ?_) <;> (try refine ev_ ?_)) | with_reducible exact ti_)
 exact absurd rfl hc
set_option maxRecDepth 4000

theorem qev {f : FuncId} {args : List AV} {r r' : AV} (h : qj Try.prog f args r) (e : r = r') : qj Try.prog f args r' := e ▸ h
theorem qr4 {l : List Ty} (h : qeu l = true) : qj Try.prog 9 [.sl 3 (qk l)] (.int .i64 1) := qev (q9r l) (by rw [h]; rfl)
theorem qxe {l : List Ty} (h : qeu l = false) : qj Try.prog 9 [.sl 3 (qk l)] (.int .i64 0) := qev (q9r l) (by rw [h]; rfl)
theorem q4h {l : List Ty} (hl : l.length ≤ maxLen) (h : qeu l = true) {x : Ty} (hx : x ∈ l) : szY x ≤ 20000 ∧ dpY x ≤ 300 := by
 have := q28 hl h
 have h1 := qq0 hx
 have h2 := qql hx
 omega
set_option maxHeartbeats 2000000 in
theorem qq5 (t : Ty) (v : Int) : qj Try.prog 3 [encY t, .int .i64 v] (.bool true) := by
 refine qd c0a (by simp) (by simp only [AV.bds, AV.bd, qcl, Bool.and_true]) rfl fun hw => ?_
 have h10 : decide ((1 : Int) = 0) = false := rfl
 by_cases hf : qeu [t] = true
 case neg =>
  have hf : qeu [t] = false := by simpa using hf
  repeat' (first | refine vs_ ?_ | ((first | refine vr_ ?_ | refine qa (qxe hf) fun _ => ?_ | refine qa qi4 fun _ => ?_ | refine qf (qxe hf) ?_ | refine qf qi4 ?_ | (refine cs_ ?_ ?_ <;> intro hc) | refine cj_ ?_ | fail) <;> (try refine ev_ ?_)) | with_reducible exact ti_)
 obtain ⟨h1, h2⟩ := q4h (l := [t]) (by simp [maxLen]) hf (x := t) (by simp)
 have a1 := qb3 h1 h2
 have a2 := ql2 h1 h2
 have a3 : qj Try.prog 13 [encY t] (.int .i64 (szY t)) := by
  have h := qig t
  rw [qg5 t 0 1 (by decide) (by omega)] at h
  exact qev h (by rw [Int.zero_add])
 have a4 : qj Try.prog 14 [encY t] (.int .i64 (szY t)) := by
  have h := qh0 t
  rwa [qfb t (by omega)] at h
 have a5 : qj Try.prog 15 [encY t] (.int .i64 (dpY t)) := by
  have h := qhb t
  have hp := qgd t
  rw [qg9 t 0 1 (by decide) (by decide) (by omega)] at h
  exact qev h (by rw [show max (0 : Int) (1 + (dpY t : Int) - 1) = dpY t by omega])
 have a6 : qj Try.prog 16 [encY t] (.int .i64 (dpY t)) := by
  have h := qf4 t
  rwa [qgg t (by omega)] at h
 have a7 := qid t (by omega)
 have a8 := qod t (by omega)
 have a9 := qev (qh5 (qcs [] (varY t)) (qcs [] (varY t))) (r' := .bool true) (by simp)
 have b1 := qgx t v
 have b2 := qpv t v (by omega)
 generalize qcy t = x at a1 a2
 generalize decide (v ∈ varY t) = y at b1 b2
 repeat' (first | refine vs_ ?_ | ((first | refine vr_ ?_ | fail) <;> (try simp only [h10, go_sem, ↓reduceIte])) | ((first | (refine cs_ ?_ ?_ <;> intro hc) | refine cj_ ?_ | fail | refine qa (qr4 hf) fun _ => ?_ | refine qf (qr4 hf) ?_) <;> (try refine ev_ ?_)) | with_reducible exact ti_)
 all_goals try (exfalso; revert hc; simp; done)
 all_goals (cases x <;> cases y)
 all_goals (repeat' (first | refine vs_ ?_ | ((first | refine vr_ ?_ | refine qa a1 fun _ => ?_ | refine qa a2 fun _ => ?_ | refine qa a3 fun _ => ?_ | refine qa a4 fun _ => ?_ | refine qa a5 fun _ => ?_ | refine qa a6 fun _ => ?_ | refine qa a7 fun _ => ?_ | refine qa a8 fun _ => ?_ | refine qa a9 fun _ => ?_ | refine qa b1 fun _ => ?_ | refine qa b2 fun _ => ?_ | refine qa qi4 fun _ => ?_ | refine qf a1 ?_ | refine qf a2 ?_ | refine qf a3 ?_ | refine qf a4 ?_ | refine qf a5 ?_ | refine qf a6 ?_ | refine qf a7 ?_ | refine qf a8 ?_ | refine qf a9 ?_ | refine qf b1 ?_ | refine qf b2 ?_ | refine qf qi4 ?_ | (refine cs_ ?_ ?_ <;> intro hc) | refine cj_ ?_ | fail) <;> (try refine ev_ ?_)) | with_reducible exact ti_))
 all_goals (exfalso; revert hc; simp)
end Go.Proofs.Ytlahgbhhejkgbaa
