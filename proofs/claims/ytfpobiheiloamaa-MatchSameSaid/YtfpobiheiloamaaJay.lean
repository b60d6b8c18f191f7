/- Texts of this proof, joined. -/
import Derived.Test.YtfpobiheiloamaaJaw
import Derived.Test.YtfpobiheiloamaaJax
import Derived.Test.YtfpobiheiloamaaJav
import Derived.Test.YtfpobiheiloamaaJai

/- terms: the program's texts -/
set_option maxRecDepth 4000
namespace Go.Proofs.Ytfpobiheiloamaa
open Go Go.RowKit Go.V
set_option linter.unusedVariables false
set_option linter.unusedSimpArgs false

theorem qmk {t : Ty} : qm Try.prog 130 [hdA t] (.str (qgj t)) := by
 refine qf c0br (by simp) (by simp only [go_sem]) rfl fun hw => ?_
 have hv : (Lit.int .i64 t.var).wf = true := hw.1.2.1
 by_cases hc0 : t.con = []
 ·by_cases h0 : 0 ≤ t.var
  ·repeat' (first | refine vs_ ?_ | ((first | refine vr_ ?_ | fail) <;> (try simp only [hc0, h0, go_sem, ↓reduceIte])) | ((first | (refine cs_ ?_ ?_ <;> intro hc) | refine cj_ ?_ | simp (disch := omega) only [encs_getN, qb] | refine qa (qgr _) fun _ => ?_) <;> (try refine ev_ ?_)) | with_reducible exact ti_)
   rw [qgj, if_pos hc0, if_pos h0]
  ·have hneg := qbbx hv (by omega)
   have hd := qy3 (n := -1 - t.var) (by have := qis hv; simp [Lit.wf, IntKind.min, IntKind.max, IntKind.signed, IntKind.bits]; omega)
   have hm : 1 + (digI (-1 - t.var)).length ≤ maxLen := by unfold maxLen; omega
   repeat' (first | refine vs_ ?_ | ((first | refine vr_ ?_ | fail) <;> (try simp only [hc0, h0, hneg, go_sem, ↓reduceIte])) | ((first | (refine cs_ ?_ ?_ <;> intro hc) | refine cj_ ?_ | simp (disch := omega) only [encs_getN, qb] | refine qa (qfc _) fun _ => ?_) <;> (try refine ev_ ?_)) | with_reducible exact ti_)
   rw [qgj, if_pos hc0, if_neg h0]
 ·repeat' (first | refine vs_ ?_ | ((first | refine vr_ ?_ | fail) <;> (try simp only [hc0, go_sem, ↓reduceIte])) | ((first | (refine cs_ ?_ ?_ <;> intro hc) | refine cj_ ?_ | simp (disch := omega) only [encs_getN, qb]) <;> (try refine ev_ ?_)) | with_reducible exact ti_)
  rw [qgj, if_neg hc0]
abbrev bldE (l : List UInt8) : Ent := .cus (bldR 125 5 l)
theorem quz {l s : List UInt8} (h : l.length + s.length ≤ Big) : VM Try.prog 102 (bldE l) (bldE (l ++ s)) [.ptr 0 0, .str s] (.tup [.int .i64 s.length, .nili]) :=
 q5j (ρ := Go.Proofs.Try.lays156_ren) { Go.Proofs.Try.lays156 with } Go.Proofs.Try.Builder_Extra_156 h
theorem qxa {l : List UInt8} (h0 : l ≠ []) (h : l.length ≤ Big) : VM Try.prog 103 (bldE l) .dead [.ptr 0 0] (.str l) :=
 qzo (ρ := Go.Proofs.Try.lays156_ren) { Go.Proofs.Try.lays156 with } Go.Proofs.Try.Builder_Extra_156 h0 h
theorem qdx {a : Ty} {b : Bool} (h : qm Try.prog 109 [encY a] (.str (txtY a))) (hl : (txtY a).length + 2 ≤ Big) : qm Try.prog 129 [encY a, .bool b] (.str (parW b (txtY a))) := by
 refine qf c0bs (by simp) (by simp only [go_sem]) rfl fun hw => ?_
 have h1 : 1 + (txtY a).length ≤ maxLen := qh0 (by omega)
 have h2 : (txtY a).length + 1 + 1 ≤ maxLen := qh0 (by omega)
 cases b
 ·repeat' (first | refine vs_ ?_ | ((first | refine vr_ ?_ | refine qa h fun _ => ?_ | (refine cs_ ?_ ?_ <;> intro hc) | refine cj_ ?_ | simp (disch := omega) only [encs_getN, qb]) <;> (try refine ev_ ?_)) | with_reducible exact ti_)
  rfl
 ·repeat' (first | refine vs_ ?_ | ((first | refine vr_ ?_ | refine qa h fun _ => ?_ | (refine cs_ ?_ ?_ <;> intro hc) | refine cj_ ?_ | simp (disch := omega) only [encs_getN, qb]) <;> (try refine ev_ ?_)) | with_reducible exact ti_)
  rfl
theorem qoe {t : Ty} (hv : (Lit.int .i64 t.var).wf = true) : qgj t ≠ [] := by
 rw [qgj]
 split
 ·split
  ·rw [ltrI, if_neg (by omega)]; split <;> simp
  ·simp
 ·assumption
theorem qqj : ∀ t, qbc t = true → (txtY t).length ≤ Big → qm Try.prog 109 [encY t] (.str (txtY t)) := by
 refine Ty.ind fun t ih hs hl => ?_
 refine qf c0bt (by simp) (by simp only [go_sem]) rfl fun hw => ?_
 obtain ⟨hk, _, hv, _⟩ := (qut t).1 hw.1
 by_cases hca : t.con = arrW
 ·obtain ⟨a, b, hab, sa, sb⟩ := qv0 hs hca
  have e := qx7 hca hab
  have hlen := congrArg List.length e
  simp only [List.length_append, List.length_cons, List.length_nil] at hlen
  have hp := qoz (decide (a.con = arrW)) (txtY a)
  have iha := ih a (by rw [hab]; simp) sa (by omega)
  have ihb := ih b (by rw [hab]; simp) sb (by omega)
  have ihc := qdx (b := decide (a.con = [45, 62])) iha (by omega)
  have e0 : (qp t.args).getD 0 .junk = encY a := by rw [hab]; rfl
  have e1 : (qp t.args).getD 1 .junk = encY b := by rw [hab]; rfl
  have e2 : t.args.length = 2 := by rw [hab]; rfl
  have hca' : t.con = [45, 62] := hca
  have m3 : (parW (decide (a.con = [45, 62])) (txtY a)).length + 4 ≤ maxLen := qh0 (by have : decide (a.con = arrW) = decide (a.con = [45, 62]) := rfl; rw [this] at hlen; omega)
  have m4 : (parW (decide (a.con = [45, 62])) (txtY a)).length + 4 + (txtY b).length ≤ maxLen := qh0 (by have : decide (a.con = arrW) = decide (a.con = [45, 62]) := rfl; rw [this] at hlen; omega)
  repeat' (first | refine vs_ ?_ | ((first | refine vr_ ?_ | fail) <;> (try simp only [hca', e0, e1, e2, go_sem, ↓reduceIte])) | ((first | simp (disch := omega) only [e1] | (refine cs_ ?_ ?_ <;> intro hc) | refine cj_ ?_ | simp (disch := omega) only [encs_getN, qb] | refine qa ihc fun _ => ?_ | refine qa ihb fun _ => ?_ | refine qd ihc ?_ | refine qd ihb ?_) <;> (try refine ev_ ?_)) | with_reducible exact ti_)
  rw [e]; rfl
 ·have e := qzl hca
  have hca' : ¬ t.con = [45, 62] := hca
  have hlen := congrArg List.length e
  rw [List.length_append] at hlen
  have hnp : 0 < (qgj t).length := List.length_pos_iff.2 (qoe hv)
  have ihA : ∀ i, i < t.args.length → qm Try.prog 129 [encY (t.args.getD i Y0), .bool (decide ((t.args.getD i Y0).args ≠ []))] (.str (parW (decide ((t.args.getD i Y0).args ≠ [])) (txtY (t.args.getD i Y0)))) := fun i hi => by
   have hm := qbf hi
   have h1 := qh1 t.args i hi
   have h2 := congrArg List.length h1
   simp only [List.length_append, List.length_cons] at h2
   have h3 := qe8 t.args (i + 1)
   have h4 := qoz (decide ((t.args.getD i Y0).args ≠ [])) (txtY (t.args.getD i Y0))
   exact qdx (ih _ hm (qsk hs hm) (by omega)) (by omega)
  have htk : ∀ i, i < t.args.length → (qgj t ++ argY (t.args.take i)).length + (32 :: parW (decide ((t.args.getD i Y0).args ≠ [])) (txtY (t.args.getD i Y0))).length ≤ Big := fun i hi => by
   have h1 := qh1 t.args i hi
   have h2 := congrArg List.length h1
   simp only [List.length_append, List.length_cons] at h2 ⊢
   have h3 := qe8 t.args (i + 1)
   omega
  have w0 : ([] : List UInt8).length + (qgj t).length ≤ Big := by simp; omega
  repeat' (first | refine vs_ ?_ | ((first | refine vr_ ?_ | fail) <;> (try simp only [hca', go_sem, ↓reduceIte])) | ((first | (refine cs_ ?_ ?_ <;> intro hc) | refine cj_ ?_ | simp (disch := omega) only [encs_getN, qb] | refine qa (qe7 _) fun _ => ?_ | refine qa (qmk (t := t)) fun _ => ?_ | refine qbi 1 (quz w0) ?_ | refine qd (qe7 _) ?_ | refine qd (qmk (t := t)) ?_) <;> (try refine ev_ ?_)) | with_reducible exact ti_)
  refine qs (S := Nat) (fun i => i ≤ t.args.length) (fun i => (⟨[(3, .ptr 1 0), (32, .sl 3 (qp t.args)), (33, .int .i64 t.args.length), (34, .int .i64 i)], []⟩, [.blk (yc t), bldE (qgj t ++ argY (t.args.take i))])) (fun i => t.args.length - i) ?_ fun i hi => ?_
  ·refine qo 0 [0, 1] (Nat.zero_le _) rfl (by simp) ?_ ?_ ?_ <;> simp only [List.take_zero, argY, List.append_nil] <;> (try refine ev_ ?_) <;> (try with_reducible exact ti_) <;> (try simp (disch := omega) only [qb, and_true, true_and])
  ·by_cases hlt : i < t.args.length
   ·have hb := htk i hlt
    have hle : decide (0 < ((t.args.getD i Y0).args.length : Int)) = decide ((t.args.getD i Y0).args ≠ []) := by
     refine decide_eq_decide.2 ⟨fun h hn => by rw [hn] at h; simp at h, fun h => ?_⟩
     have := List.length_pos_iff.2 h
     omega
    have m1 : 1 + (parW (decide ((t.args.getD i Y0).args ≠ [])) (txtY (t.args.getD i Y0))).length ≤ maxLen := qh0 (by simp only [List.length_append, List.length_cons] at hb; omega)
    repeat' (first | refine vs_ ?_ | ((first | refine vr_ ?_ | fail) <;> (try simp (disch := first | omega | (simp only [List.length_set, List.length_append, List.length_cons, List.length_nil]; done) | (simp only [List.length_set, List.length_append, List.length_cons, List.length_nil]; omega)) only [qr, qb, hle, go_sem, ↓reduceIte])) | ((first | (refine cs_ ?_ ?_ <;> intro hc) | refine cj_ ?_ | simp (disch := omega) only [encs_getN, qb] | refine qa (ihA i hlt) fun _ => ?_ | refine qbi 1 (quz hb) ?_ | refine qd (ihA i hlt) ?_) <;> (try refine ev_ ?_)) | with_reducible exact ti_)
    ·refine qo (i + 1) [0, 1] ⟨by omega, by omega⟩ rfl (by simp) ?_ ?_ ?_ <;> simp only [qh1 _ _ hlt] <;> (try refine ev_ ?_) <;> (try with_reducible exact ti_) <;> (try simp (disch := omega) only [qb, and_true, true_and])
    ·omega
   ·have hend : qgj t ++ argY (t.args.take i) = txtY t := by rw [e, List.take_of_length_le (by omega)]
    have hne : txtY t ≠ [] := by rw [e]; exact fun h => qoe hv (List.append_eq_nil_iff.1 h).1
    rw [hend]
    repeat' (first | refine vs_ ?_ | ((first | refine vr_ ?_ | refine qbi 1 (qxa hne hl) ?_ | (refine cs_ ?_ ?_ <;> intro hc) | refine cj_ ?_ | simp (disch := omega) only [encs_getN, qb]) <;> (try refine ev_ ?_)) | with_reducible exact ti_)
    ·omega
def qif (t : Ty) : List UInt8 := if qk t = true then txtY t else []
theorem qhv {t : Ty} (h : qk t = true) : qbc t = true := by
 rw [qk, Bool.and_eq_true, Bool.and_eq_true] at h; exact h.2.2
theorem qjf {t : Ty} (h1 : szY t ≤ 20000) (h2 : dpY t ≤ 300) (hl : (qif t).length ≤ Big) : qm Try.prog 75 [encY t] (.str (qif t)) := by
 refine qf c0bu (by simp) (by simp only [go_sem]) rfl fun hw => ?_
 have hL := qb5 h1 h2
 cases h : qk t with
 | false =>
   have e : qif t = [] := by rw [qif, if_neg (by rw [h]; simp)]
   rw [e]
   rw [h] at hL
   repeat' (first | refine vs_ ?_ | ((first | refine vr_ ?_ | refine qa hL fun _ => ?_ | (refine cs_ ?_ ?_ <;> intro hc) | refine cj_ ?_ | fail) <;> (try refine ev_ ?_)) | with_reducible exact ti_)
 | true =>
   have e : qif t = txtY t := by rw [qif, if_pos h]
   rw [e] at hl ⊢
   rw [h] at hL
   repeat' (first | refine vs_ ?_ | ((first | refine vr_ ?_ | refine qa hL fun _ => ?_ | refine qa (qqj t (qhv h) hl) fun _ => ?_ | (refine cs_ ?_ ?_ <;> intro hc) | refine cj_ ?_ | fail) <;> (try refine ev_ ?_)) | with_reducible exact ti_)

theorem q8 (t : Ty) : qk t = true ↔ szY t ≤ 4096 ∧ dpY t ≤ 100 ∧ qbc t = true := by
 rw [qk, Bool.and_eq_true, Bool.and_eq_true, decide_eq_true_eq, decide_eq_true_eq]
theorem qvb {t : Ty} (h : qbc t = true) (hc : t.con = []) : t.args = [] := by
 rw [qdt, Bool.and_eq_true] at h
 have h2 := h.2
 rw [mayY, mayW, if_pos hc, decide_eq_true_eq] at h2
 exact List.length_eq_zero_iff.1 (by omega)
mutual
theorem qci : ∀ t, qbc t = true → bare t
 | .mk c v l, h => by
   rw [bare]
   refine ⟨fun hc => qvb h hc, qgn l ?_⟩
   rw [qbc, Bool.and_eq_true] at h
   exact h.1
theorem qgn : ∀ l, q7 l = true → qeg l
 | [], _ => by rw [qeg]; trivial
 | x :: r, h => by
   rw [q7, Bool.and_eq_true] at h
   rw [qeg]
   exact ⟨qci x h.1, qgn r h.2⟩
end
def okS (s : List Pr) : Prop := risR s ∧ ∀ p ∈ s, qk p.ty = true
theorem qep : okS [] := ⟨trivial, fun p hp => by simp at hp⟩
theorem q6b {s : List Pr} (h : okS s) : okR s := fun p hp => by
 have := (q8 _).1 (h.2 p hp)
 exact ⟨this.1, this.2.1⟩
theorem qxz {s : List Pr} (h : okS s) {v : Int} {u : Ty} (hu : qq v s = some u) : qk u = true := by
 obtain ⟨p, h1, _, rfl⟩ := qfo hu
 exact h.2 p h1
mutual
theorem qms {s : List Pr} (h : okS s) : ∀ t, qbc t = true → qbc (putY s t) = true
 | .mk c v l, ht => by
   rw [putY]
   split
   ·cases hl : qq v s with
    | some u => exact ((q8 u).1 (qxz h hl)).2.2
    | none => exact ht
   ·rw [qbc, Bool.and_eq_true] at ht ⊢
    exact ⟨qjz h l ht.1, by rw [qr4]; exact ht.2⟩
theorem qjz {s : List Pr} (h : okS s) : ∀ l, q7 l = true → q7 (qc7 s l) = true
 | [], _ => by rw [qc7, q7]
 | x :: r, hl => by
   rw [q7, Bool.and_eq_true] at hl
   rw [qc7, q7, Bool.and_eq_true]
   exact ⟨qms h x hl.1, qjz h r hl.2⟩
end
def setR (l : List Pr) (v : Int) (t : Ty) : List Pr × Int := if qk t = true then (match qq v l with | some _ => (l, 6) | none => (insR v t l, 0)) else (l, 1)
theorem qnt {s : List Pr} (h : okS s) (v : Int) (t : Ty) : okS (setR s v t).1 := by
 rw [setR]
 split
 ·rename_i ht
  cases hl : qq v s with
  | some u => exact h
  | none =>
    refine ⟨qp0 h.1 hl, fun p hp => ?_⟩
    rcases insR_mem.1 hp with rfl | hp
    ·exact ht
    ·exact h.2 p hp
 ·exact h
theorem qol (s : List Pr) (v : Int) (t : Ty) : (setR s v t).1.length ≤ s.length + 1 := by
 rw [setR]
 split
 ·cases qq v s with
  | some u => simp
  | none => simp only [qoy]; omega
 ·simp
def addR (s : List Pr) : List Pr → List Pr
 | [] => s
 | p :: r => addR (setR s p.v p.ty).1 r
theorem qm4 : ∀ (l : List Pr) {s : List Pr}, okS s → okS (addR s l)
 | [], s, h => h
 | p :: r, s, h => qm4 r (qnt h p.v p.ty)
theorem qok : ∀ (l s : List Pr), (addR s l).length ≤ s.length + l.length
 | [], s => by simp [addR]
 | p :: r, s => by
   have h1 := qok r (setR s p.v p.ty).1
   have h2 := qol s p.v p.ty
   rw [addR, List.length_cons]; omega
def newR (l : List Pr) : List Pr := addR [] l
theorem qm5 (l : List Pr) : okS (newR l) := qm4 l qep
theorem qyz (l : List Pr) : (newR l).length ≤ l.length := by have := qok l []; rw [newR]; simpa using this
def appR (s : List Pr) (t : Ty) : Ty × Int := if qk t = true then (if 4096 < sizR s t then (Y0, 2) else if qk (putY s t) = true then (putY s t, 0) else (Y0, 2)) else (Y0, 1)
theorem qnr {s : List Pr} (h : okS s) (t : Ty) : appR s t = if qk t = true then (if qk (putY s t) = true then (putY s t, 0) else (Y0, 2)) else (Y0, 1) := by
 rw [appR]
 split
 ·rename_i ht
  have hs := qhv ht
  have hz := qnu s t (qci t hs)
  split
  ·rename_i hb
   rw [if_neg]
   intro hl
   have := ((q8 _).1 hl).1
   omega
  ·rfl
 ·rfl
def appP (s : List Pr) (t : Ty) : Ty × Int := if qk t = true then (if (bput s t 4096 1).1 < 0 then (Y0, 2) else ((bput s t 4096 1).2, 0)) else (Y0, 1)
theorem q9i {s : List Pr} (h : okS s) (t : Ty) : appP s t = appR s t := by
 rw [appP, qnr h]
 split
 ·rename_i ht
  obtain ⟨h1, h2, h3⟩ := (q8 t).1 ht
  have hz := qnu s t (qci t h3)
  have hp := qms h t h3
  have key := qoj s t 4096 1 (qci t h3) (by omega) (by omega)
  by_cases hk : (sizR s t : Int) ≤ 4096 ∧ 1 + dpY (putY s t) ≤ 101
  ·have hk' : (sizR s t : Int) ≤ 4096 ∧ (1 : Int) + dpY (putY s t) ≤ 101 := by omega
   rw [key.1 hk', if_neg (by simp only; omega), if_pos ((q8 _).2 ⟨by omega, by omega, hp⟩)]
  ·rw [if_pos (key.2 (by omega)), if_neg]
   intro hl
   have := (q8 _).1 hl
   omega
 ·rfl
theorem qre {s : List Pr} (h : okS s) {t : Ty} (he : (appR s t).2 = 0) : qk t = true ∧ qk (putY s t) = true ∧ (appR s t).1 = putY s t := by
 rw [qnr h] at he ⊢
 split at he
 ·rename_i h1
  split at he
  ·rename_i h2
   rw [if_pos h1, if_pos h2]
   exact ⟨h1, h2, rfl⟩
  ·exact absurd he (by simp)
 ·exact absurd he (by simp)
def qmy (t : List Pr) : List Pr → List Pr → List Pr × Int
 | acc, [] => (acc, 0)
 | acc, p :: r => if (appR t p.ty).2 = 0 then qmy t (acc ++ [⟨p.v, (appR t p.ty).1⟩]) r else ([], (appR t p.ty).2)
def behR (s t : List Pr) : List Pr × Int := if (qmy t [] s).2 = 0 then (addR (qmy t [] s).1 t, 0) else ([], (qmy t [] s).2)
theorem qmh {t : List Pr} (ht : okS t) : ∀ (s acc : List Pr), (qmy t acc s).2 = 0 → (qmy t acc s).1 = acc ++ s.map (fun p => ⟨p.v, putY t p.ty⟩) ∧ ∀ p ∈ s, qk (putY t p.ty) = true
 | [], acc, _ => ⟨by simp [qmy], fun p hp => by simp at hp⟩
 | p :: r, acc, he => by
   rw [qmy] at he ⊢
   split at he
   ·rename_i h0
    obtain ⟨h1, h2, h3⟩ := qre ht h0
    obtain ⟨q1, q2⟩ := qmh ht r _ he
    rw [if_pos h0]
    refine ⟨by rw [q1, h3]; simp, fun q hq => ?_⟩
    rcases List.mem_cons.1 hq with rfl | hq
    ·exact h2
    ·exact q2 q hq
   ·rename_i h0
    exact absurd he h0
theorem qso {t : List Pr} : ∀ {s : List Pr}, risR s → risR (s.map fun p => (⟨p.v, putY t p.ty⟩ : Pr))
 | [], _ => trivial
 | p :: r, h => ⟨fun q hq => by
     obtain ⟨x, hx, rfl⟩ := List.mem_map.1 hq
     exact h.1 x hx, qso h.2⟩
theorem q34 {s t : List Pr} (hs : okS s) (ht : okS t) : okS (behR s t).1 := by
 rw [behR]
 split
 ·rename_i he
  obtain ⟨q1, q2⟩ := qmh ht s [] he
  refine qm4 t ?_
  rw [q1, List.nil_append]
  refine ⟨qso hs.1, fun p hp => ?_⟩
  obtain ⟨x, hx, rfl⟩ := List.mem_map.1 hp
  exact q2 x hx
 ·exact qep
def qbbk (vars : List Int) (s : List Pr) : List Pr := s.filter fun p => decide (p.v ∈ vars)
theorem qgd (f : Pr → Bool) : ∀ {s : List Pr}, risR s → risR (s.filter f)
 | [], _ => trivial
 | p :: r, h => by
   rw [List.filter_cons]
   split
   ·exact ⟨fun q hq => h.1 q (List.mem_filter.1 hq).1, qgd f h.2⟩
   ·exact qgd f h.2
theorem qx6 {s : List Pr} (h : okS s) (vars : List Int) : okS (qbbk vars s) := ⟨qgd _ h.1, fun p hp => h.2 p (List.mem_filter.1 hp).1⟩
set_option maxRecDepth 4000

set_option maxRecDepth 4000

set_option maxRecDepth 4000

/-! the reference's -/
set_option maxRecDepth 4000

set_option maxRecDepth 4000

def typA (p : Ty × Int) : AV := .tup [encY p.1, .int .i64 p.2]
theorem q19 (k : Nat) (p : Ty × Int) : (typA p).bd k = true := by simp only [typA, AV.bd, AV.bds, qbe, Bool.and_true]
end Go.Proofs.Ytfpobiheiloamaa
