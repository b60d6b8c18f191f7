/- Texts of this proof, joined. -/
import Derived.Test.YtlahgbhhejkgbaaMaw
import Derived.Test.YtlahgbhhejkgbaaMar
import Derived.Shelf.Strings.Builder1
import Derived.Shelf.Strings.Builder2
import Derived.Shelf.Strings.OnBuilder
import Derived.Test.YtlahgbhhejkgbaaProg

/- the reader of terms: terms -/
set_option maxRecDepth 4000
namespace Go.Proofs.Ytlahgbhhejkgbaa
open Go Go.RowKit Go.V
set_option linter.unusedVariables false
set_option linter.unusedSimpArgs false

abbrev z1Y : List AV := [.str [], .int .i64 0, .nils]
def RA (n : Nat) : Prop := ∀ r : Rd, ascS r.s → 0 ≤ r.lv → r.lv ≤ 200 → 3 * r.s.length + 1 ≤ n → VM Try.prog 72 (rdE r) (rdE (qb3 n r).2) [.ptr 0 0] (encY (qb3 n r).1)
def RT (n : Nat) : Prop := ∀ r : Rd, ascS r.s → 0 ≤ r.lv → r.lv ≤ 200 → 3 * r.s.length + 2 ≤ n → VM Try.prog 53 (rdE r) (rdE (qc4 n r).2) [.ptr 0 0] (encY (qc4 n r).1)
theorem qbbf {n : Nat} (hT : RT n) : RA (n + 1) := fun r hk h0 h1 hn => by
 cases hp : pfx [40] r.s with
 | false =>
   rw [qb3, if_neg (by simp [hp])]
   exact qru (n := n) hp hk
 | true =>
   have hl := qeo hp
   simp only [List.length_cons, List.length_nil] at hl
   rw [qb3, if_pos hp]
   exact qtq hp (hT (cutR 1 r) (qb8 hk 1) h0 h1 (by rw [qd7]; omega))
theorem qw6 {z : Opd} {Q : VE → AF → List Ent → Prop} {af : AF} {H : List Ent} : dfq z Q .nrm af H = ∃ f first caps, gt af z = .fn f first caps ∧ Q .nrm ⟨af.tm, .dfr (.fn f first caps) [] :: af.dl⟩ H := rfl
attribute [go_sem] qw6
def dl1 : List AD := [.dfr (.fn 71 [] [.ptr 1 0]) []]
def tmSt (x : Nat × Ty × Rd) : AF × List Ent := (⟨[(1, .ptr 1 0), (2, .ptr 2 0), (3, .ptr 3 0)], dl1⟩, [rdE x.2.2, .blk [.ptr 0 0], .blk z1Y, .blk (yc x.2.1)])
theorem qvh {r : Rd} (hb : r.bad = true ∨ 200 < r.lv + 1) (h0 : 0 ≤ r.lv) (h1 : r.lv ≤ 200) : VM Try.prog 53 (rdE r) (rdE (badR true r)) [.ptr 0 0] (encY Y0) := by
 refine qhz c0br 1 (by simp) (by simp) ?_
 have hw : IntKind.i64.wrap (r.lv + 1) = r.lv + 1 := qx (by omega) (by omega)
 unfold k0br
 by_cases h2 : 200 < r.lv + 1
 ·refine qbu ?_
  repeat' (first | refine vs_ ?_ | ((first | refine vr_ ?_ | fail) <;> (try simp only [hw, h2, decide_true, go_sem, ↓reduceIte])) | ((first | (refine cs_ ?_ ?_ <;> intro hc) | refine cj_ ?_ | simp (disch := omega) only [encs_getN, qc]) <;> (try refine ev_ ?_)) | with_reducible exact ti_)
  refine qqm ?_
  (refine ev_ ?_; (try with_reducible exact ti_))
  refine ⟨_, [], [.ptr 1 0], rfl, ?_⟩
  repeat' (first | refine vs_ ?_ | ((first | refine vr_ ?_ | fail) <;> (try simp only [hw, go_sem, ↓reduceIte])) | ((first | (refine cs_ ?_ ?_ <;> intro hc) | refine cj_ ?_ | simp (disch := omega) only [encs_getN, qc]) <;> (try refine ev_ ?_)) | with_reducible exact ti_)
  refine qf7 (r := ⟨r.s, r.lv + 1, true⟩) (L := [.blk z1Y]) (by dsimp only; omega) (by dsimp only; omega) rfl ?_
  (simp (disch := first | omega | (simp only [List.length_set, List.length_append, List.length_cons, List.length_nil]; done) | (simp only [List.length_set, List.length_append, List.length_cons, List.length_nil]; omega)) only [Int.add_sub_cancel, go_sem, ↓reduceIte])
  rfl
 ·have h3 : r.bad = true := hb.resolve_right h2
  refine qbu ?_
  repeat' (first | refine vs_ ?_ | ((first | refine vr_ ?_ | fail) <;> (try simp only [hw, h2, h3, decide_false, go_sem, ↓reduceIte])) | ((first | (refine cs_ ?_ ?_ <;> intro hc) | refine cj_ ?_ | simp (disch := omega) only [encs_getN, qc]) <;> (try refine ev_ ?_)) | with_reducible exact ti_)
  refine qqm ?_
  (refine ev_ ?_; (try with_reducible exact ti_))
  refine ⟨_, [], [.ptr 1 0], rfl, ?_⟩
  repeat' (first | refine vs_ ?_ | ((first | refine vr_ ?_ | fail) <;> (try simp only [hw, h3, go_sem, ↓reduceIte])) | ((first | (refine cs_ ?_ ?_ <;> intro hc) | refine cj_ ?_ | simp (disch := omega) only [encs_getN, qc]) <;> (try refine ev_ ?_)) | with_reducible exact ti_)
  refine qf7 (r := ⟨r.s, r.lv + 1, true⟩) (L := [.blk z1Y]) (by dsimp only; omega) (by dsimp only; omega) rfl ?_
  (simp (disch := first | omega | (simp only [List.length_set, List.length_append, List.length_cons, List.length_nil]; done) | (simp only [List.length_set, List.length_append, List.length_cons, List.length_nil]; omega)) only [Int.add_sub_cancel, go_sem, ↓reduceIte])
  rfl
def tmSf (x : Bool × Nat × Ty × Rd) : AF × List Ent :=
 if x.1 = true then (⟨[(1, .ptr 1 0), (2, .ptr 2 0), (3, .ptr 3 0)], dl1⟩, [rdE x.2.2.2, .blk [.ptr 0 0], .blk z1Y, .blk [.str x.2.2.1.con, .int .i64 x.2.2.1.var, .row 4 x.2.2.1.args.length], .app 3 (qi x.2.2.1.args)])
 else tmSt x.2
def tmI (n : Nat) (r0 : Rd) (tg : Ty × Rd) (x : Nat × Ty × Rd) : Prop := qhj x.1 x.2.1 x.2.2 = tg ∧ 3 * x.2.2.s.length + 1 ≤ x.1 ∧ x.1 ≤ n ∧ ascS x.2.2.s ∧ x.2.2.lv = r0.lv ∧ x.2.1.args.length + x.2.2.s.length ≤ r0.s.length
theorem qqi {n : Nat} {r0 : Rd} {tg : Ty × Rd} (hA : ∀ m, m ≤ n → RA m) (hk0 : r0.s.length < 4294967281) (h0 : 0 ≤ r0.lv) (h1 : r0.lv ≤ 200) {Q : VE → AF → List Ent → Prop} {m t q} (hx : tmI n r0 tg (m, t, q)) :
 VI Try.prog none 67 1 qiy (lq (fun s' => tmI n r0 tg s'.2 ∧ s'.2.1 < m) tmSf 1 (blq 0 (lq (fun _ : Unit => True) (fun _ => tmSt (0, tg)) 1 Q))) (tmSt (m, t, q)).1 (tmSt (m, t, q)).2 := by
 obtain ⟨e1, e2, e3, e4, e5, e6⟩ := hx
 dsimp only at e1 e2 e3 e4 e5 e6
 obtain ⟨m, rfl⟩ : ∃ m', m = m' + 1 := ⟨m - 1, by omega⟩
 rw [qhj] at e1
 unfold tmSt
 cases hb : q.bad with
 | true =>
   rw [if_neg (by simp [hb])] at e1
   subst e1
   repeat' (first | refine vs_ ?_ | ((first | refine vr_ ?_ | fail) <;> (try simp only [hb, go_sem, ↓reduceIte])) | ((first | (refine cs_ ?_ ?_ <;> intro hc) | refine cj_ ?_ | simp (disch := omega) only [encs_getN, qc]) <;> (try refine ev_ ?_)) | with_reducible exact ti_)
   refine qt () [0, 1, 2, 3] trivial rfl (by simp) ?_ ?_ ?_ <;> simp only [tmSt, dl1] <;> (try refine ev_ ?_) <;> (try with_reducible exact ti_) <;> (try simp (disch := omega) only [qc, and_true, true_and])
 | false =>
   cases hp : pfx arrS q.s with
   | true =>
     rw [if_neg (by simp [hp])] at e1
     subst e1
     unfold arrS at hp
     repeat' (first | refine vs_ ?_ | ((first | refine vr_ ?_ | fail) <;> (try simp only [hb, hp, go_sem, ↓reduceIte])) | ((first | (refine cs_ ?_ ?_ <;> intro hc) | refine cj_ ?_ | simp (disch := omega) only [encs_getN, qc] | refine qa (qg _ _) fun _ => ?_ | refine qe (qg _ _) ?_) <;> (try refine ev_ ?_)) | with_reducible exact ti_)
     all_goals first | (exfalso; rw [hp] at hc; cases hc; done) | skip
     refine qt () [0, 1, 2, 3] trivial rfl (by simp) ?_ ?_ ?_ <;> simp only [tmSt, dl1] <;> (try refine ev_ ?_) <;> (try with_reducible exact ti_) <;> (try simp (disch := omega) only [qc, and_true, true_and])
   | false =>
     have hp' := hp
     unfold arrS at hp'
     cases hs : pfx [32] q.s with
     | false =>
       rw [if_neg (by simp [hs])] at e1
       subst e1
       repeat' (first | refine vs_ ?_ | ((first | refine vr_ ?_ | fail) <;> (try simp only [hb, hp', go_sem, ↓reduceIte])) | ((first | (refine cs_ ?_ ?_ <;> intro hc) | refine cj_ ?_ | simp (disch := omega) only [encs_getN, qc] | refine qa (qg _ _) fun _ => ?_ | refine qbo 0 (qi9 (r := ⟨q.s, q.lv, false⟩) hs) ?_ | refine qe (qg _ _) ?_) <;> (try refine ev_ ?_)) | with_reducible exact ti_)
       all_goals first | (exfalso; rw [hp'] at hc; cases hc; done) | skip
       refine qt () [0, 1, 2, 3] trivial rfl (by simp) ?_ ?_ ?_ <;> simp only [tmSt, dl1] <;> (try refine ev_ ?_) <;> (try with_reducible exact ti_) <;> (try simp (disch := omega) only [qc, and_true, true_and])
     | true =>
       rw [if_pos ⟨hb, hp, hs⟩] at e1
       have hl := qeo hs
       simp only [List.length_cons, List.length_nil] at hl
       have hatm := hA m (by omega) (cutR 1 q) (qb8 e4 1) (by show 0 ≤ q.lv; omega) (by show q.lv ≤ 200; omega) (by rw [qd7]; omega)
       have hsf := qmj (n := m) (by omega) (cutR 1 q)
       have hcq : cutR 1 q = ⟨q.s.drop 1, q.lv, false⟩ := by rw [cutR, hb]
       rw [hcq] at hatm hsf e1
       generalize qb3 m ⟨q.s.drop 1, q.lv, false⟩ = p at hatm hsf e1
       repeat' (first | refine vs_ ?_ | ((first | refine vr_ ?_ | fail) <;> (try simp only [hb, hp', go_sem, ↓reduceIte])) | ((first | (refine cs_ ?_ ?_ <;> intro hc) | refine cj_ ?_ | simp (disch := omega) only [encs_getN, qc] | refine qa (qg _ _) fun _ => ?_ | refine qbo 0 (qhp (r := ⟨q.s, q.lv, false⟩) hs) ?_ | refine qe (qg _ _) ?_) <;> (try refine ev_ ?_)) | with_reducible exact ti_)
       all_goals first | (exfalso; rw [hp'] at hc; cases hc; done) | skip
       have hnx : tmI n r0 tg (m, .mk t.con t.var (t.args ++ [p.1]), p.2) := by
        obtain ⟨q1, q2, q3⟩ := hsf
        rw [List.length_drop] at q3
        refine ⟨e1, by dsimp only; omega, by dsimp only; omega, ?_, q2.trans e5, ?_⟩
        ·obtain ⟨j, q1⟩ := q1
         rw [q1]
         exact qb8 (qb8 e4 1) j
        ·show (t.args ++ [p.1]).length + p.2.s.length ≤ _
         rw [List.length_append, List.length_singleton]; omega
       by_cases ht : t.args = []
       ·refine qvn ht ?_
        repeat' (first | refine vs_ ?_ | ((first | refine vr_ ?_ | refine q00 0 hatm ?_ | (refine cs_ ?_ ?_ <;> intro hc) | refine cj_ ?_ | simp (disch := omega) only [encs_getN, qc]) <;> (try refine ev_ ?_)) | with_reducible exact ti_)
        refine qt (true, m, .mk t.con t.var (t.args ++ [p.1]), p.2) [0, 1, 2, 3, 4] ⟨hnx, by dsimp only; omega⟩ rfl (by simp) ?_ ?_ ?_ <;> simp only [tmSf, dl1, ht, if_true] <;> (try refine ev_ ?_) <;> (try with_reducible exact ti_) <;> (try simp (disch := omega) only [qc, and_true, true_and])
        all_goals exact ⟨rfl, rfl⟩
       ·refine qsb ht (by omega) ?_
        have hcap : qcr (t.args.length + 1) 48 = True := eq_true (by unfold qcr; omega)
        repeat' (first | refine vs_ ?_ | ((first | refine vr_ ?_ | refine q00 0 hatm ?_ | simp (disch := omega) only [hcap] | (refine cs_ ?_ ?_ <;> intro hc) | refine cj_ ?_ | simp (disch := omega) only [encs_getN, qc]) <;> (try refine ev_ ?_)) | with_reducible exact ti_)
        refine qt (true, m, .mk t.con t.var (t.args ++ [p.1]), p.2) [0, 1, 2, 3, 5] ⟨hnx, by dsimp only; omega⟩ rfl (by simp) ?_ ?_ ?_ <;> simp only [tmSf, dl1, if_true] <;> (try refine ev_ ?_) <;> (try with_reducible exact ti_) <;> (try simp (disch := omega) only [qc, and_true, true_and])
        all_goals exact ⟨by rw [show (Ty.mk t.con t.var (t.args ++ [p.1])).args.length = t.args.length + 1 by simp [Ty.args]]; rfl, by rw [qdq]; rfl⟩
theorem qqo {n : Nat} {r0 : Rd} {tg : Ty × Rd} (hA : ∀ m, m ≤ n → RA m) (hk0 : r0.s.length < 4294967281) (h0 : 0 ≤ r0.lv) (h1 : r0.lv ≤ 200) {Q : VE → AF → List Ent → Prop} {af : AF} {H : List Ent}
 (hat : At (Bool × Nat × Ty × Rd) (fun x => tmI n r0 tg x.2) tmSf 1 af H) : VI Try.prog none 67 1 (.block 0 (.loop qiy)) (lq (fun _ : Unit => True) (fun _ => tmSt (0, tg)) 1 Q) af H := by
 refine qmk (q7 (fun x => tmI n r0 tg x.2) tmSf (fun x => x.2.1) hat fun x hx => ?_)
 obtain ⟨b, m, t, q⟩ := x
 have hs := qqi (Q := Q) hA hk0 h0 h1 hx
 cases b with
 | false => exact hs
 | true =>
   refine qpi 3 2 (.sl 3) rfl ?_
   refine qqv (S := Unit) (Inv := fun _ => True) (st := fun _ => tmSt (m, t, q)) ?_ fun _ _ => hs
   refine qt () [0, 1, 2, 3] trivial rfl (by simp) ?_ ?_ ?_ <;> simp only [tmSt, tmSf, dl1, if_true] <;> (try refine ev_ ?_) <;> (try with_reducible exact ti_) <;> (try simp (disch := omega) only [qc, and_true, true_and])
set_option maxRecDepth 4000

theorem qts {t a b : Ty} (h1 : t.con = arrW) (h2 : t.args = [a, b]) : txtY t = parW (decide (a.con = arrW)) (txtY a) ++ ([32, 45, 62, 32] ++ txtY b) := by
 cases t with
 | mk c v l =>
   have h1' : c = arrW := h1
   have h2' : l = [a, b] := h2
   subst h1' h2'
   rw [txtY, if_pos rfl]
theorem qtr {t : Ty} (h1 : ¬ t.con = arrW) : txtY t = qe3 t ++ argY t.args := by
 cases t with
 | mk c v l =>
   have h1' : ¬ c = arrW := h1
   rcases l with _ | ⟨a, _ | ⟨b, _ | ⟨d, r⟩⟩⟩ <;> (simp only [txtY, if_neg h1']; rfl)
theorem qf3 (l : List Ty) (i : Nat) (h : i < l.length) : argY (l.take (i + 1)) = argY (l.take i) ++ (32 :: parW (decide ((l.getD i Y0).args ≠ [])) (txtY (l.getD i Y0))) := by
 have h1 : l.take (i + 1) = l.take i ++ [l.getD i Y0] := by
  rw [List.take_add_one, List.getD_eq_getElem?_getD, List.getElem?_eq_getElem h]; rfl
 rw [h1]
 generalize l.take i = a
 generalize l.getD i Y0 = x
 induction a with
 | nil => simp [argY]
 | cons y a ih => simp only [List.cons_append, argY, ih, List.append_assoc]
theorem qef (l : List Ty) (i : Nat) : (argY (l.take i)).length ≤ (argY l).length := by
 induction l generalizing i with
 | nil => simp
 | cons x r ih =>
   cases i with
   | zero => simp [argY]
   | succ i => rw [List.take_succ_cons, argY, argY, List.length_append, List.length_append]; have := ih i; omega
theorem qrs {t : Ty} (h : qcs t = true) (h1 : t.con = arrW) : ∃ a b, t.args = [a, b] ∧ qcs a = true ∧ qcs b = true := by
 rw [qi6, Bool.and_eq_true] at h
 obtain ⟨h2, h3⟩ := h
 rw [mayY, mayW, h1, if_neg (by decide), if_pos rfl, Bool.and_eq_true, decide_eq_true_eq, decide_eq_true_eq] at h3
 have hl : t.args.length = 2 := by omega
 obtain ⟨a, b, hab⟩ : ∃ a b, t.args = [a, b] := by
  match hh : t.args, hl with
  | [a, b], _ => exact ⟨a, b, rfl⟩
 rw [hab] at h2
 simp only [qde, Bool.and_eq_true] at h2
 exact ⟨a, b, hab, h2.1, h2.2.1⟩
theorem qrc {t x : Ty} (h : qcs t = true) (hx : x ∈ t.args) : qcs x = true := by
 rw [qi6, Bool.and_eq_true] at h
 have h2 := h.1
 generalize t.args = l at hx h2
 induction l with
 | nil => cases hx
 | cons y r ih =>
   rw [qde, Bool.and_eq_true] at h2
   rcases List.mem_cons.1 hx with rfl | hx
   ·exact h2.1
   ·exact ih hx h2.2
theorem ql1 (b : Bool) (s : List UInt8) : s.length ≤ (parW b s).length ∧ (parW b s).length ≤ s.length + 2 := by
 rw [parW]; split <;> simp <;> omega
def Big : Nat := 140737488355328
theorem qgg {n : Nat} (h : n ≤ Big) : n ≤ maxLen := by unfold Big at h; unfold maxLen; omega

theorem q69 {v : Int} (h : (Lit.int .i64 v).wf = true) (h0 : v < 0) : IntKind.i64.wrap (-1 - v) = -1 - v := by
 have := qf6 h
 exact qx (by omega) (by omega)
end Go.Proofs.Ytlahgbhhejkgbaa
/- strings.Builder: the shelf's facts over this program. -/
namespace Go.Proofs
open Go.Shelf
def Try.lays156_ren : Go.Shelf.Ren := ⟨fun | 166 => 81 | 169 => 83 | 240 => 105 | 276 => 121 | n => n, fun | 0 => 0 | 3 => 3 | 4 => 4 | 9 => 9 | 20 => 20 | 37 => 89 | 70 => 88 | 72 => 91 | 75 => 93 | 76 => 94 | 164 => 138 | 5 => 5 | 127 => 124 | 80 => 96 | n => n, fun | n => n⟩
theorem Try.bld166 : Go.Proofs.Lays.n166 Try.prog Try.lays156_ren := {
 mixed := by kernel_rfl
 f166 := Try.func81.trans (congrArg some (by kernel_rfl))
 f240 := Try.func105.trans (congrArg some (by kernel_rfl))
 f276 := Try.func121.trans (congrArg some (by kernel_rfl))
 t0 := Try.underlying0
 a0 := Try.isAgg0
 z0 := Try.sizeOf0
 v0 := Try.zeroValue0
 t3 := Try.underlying3
 a3 := Try.isAgg3
 z3 := Try.sizeOf3
 v3 := Try.zeroValue3
 t4 := Try.underlying4
 a4 := Try.isAgg4
 z4 := Try.sizeOf4
 v4 := Try.zeroValue4
 t9 := Try.underlying9
 a9 := Try.isAgg9
 z9 := Try.sizeOf9
 v9 := Try.zeroValue9
 t20 := Try.underlying20
 a20 := Try.isAgg20
 z20 := Try.sizeOf20
 v20 := Try.zeroValue20
 t37 := Try.underlying89
 a37 := Try.isAgg89
 z37 := Try.sizeOf89
 v37 := Try.zeroValue89
 t70 := Try.underlying88
 a70 := Try.isAgg88
 z70 := Try.sizeOf88
 v70 := Try.zeroValue88
 t72 := Try.underlying91
 a72 := Try.isAgg91
 z72 := Try.sizeOf91
 v72 := Try.zeroValue91
 t75 := Try.underlying93
 a75 := Try.isAgg93
 z75 := Try.sizeOf93
 v75 := Try.zeroValue93
 t164 := Try.underlying138
 a164 := Try.isAgg138
 z164 := Try.sizeOf138
 v164 := Try.zeroValue138 }
theorem Try.bld169 : Go.Proofs.Lays.n169 Try.prog Try.lays156_ren := {
 mixed := by kernel_rfl
 f169 := Try.func83.trans (congrArg some (by kernel_rfl))
 t0 := Try.underlying0
 a0 := Try.isAgg0
 z0 := Try.sizeOf0
 v0 := Try.zeroValue0
 t3 := Try.underlying3
 a3 := Try.isAgg3
 z3 := Try.sizeOf3
 v3 := Try.zeroValue3
 t9 := Try.underlying9
 a9 := Try.isAgg9
 z9 := Try.sizeOf9
 v9 := Try.zeroValue9
 t37 := Try.underlying89
 a37 := Try.isAgg89
 z37 := Try.sizeOf89
 v37 := Try.zeroValue89
 t70 := Try.underlying88
 a70 := Try.isAgg88
 z70 := Try.sizeOf88
 v70 := Try.zeroValue88
 t72 := Try.underlying91
 a72 := Try.isAgg91
 z72 := Try.sizeOf91
 v72 := Try.zeroValue91
 t127 := Try.underlying124
 a127 := Try.isAgg124
 z127 := Try.sizeOf124
 v127 := Try.zeroValue124 }
theorem Try.Builder_Extra_156 : Builder.Extra Try.prog Try.lays156_ren := {
 sizeBuilder := by kernel_rfl
 liesBuilder := by kernel_rfl
 t5 := Try.underlying5
 a5 := Try.isAgg5
 z5 := Try.sizeOf5
 v5 := Try.zeroValue5
 infoByte := by kernel_rfl
 cellsByte := by kernel_rfl
 sizeByte := by kernel_rfl
 neB5 := by decide }
end Go.Proofs
