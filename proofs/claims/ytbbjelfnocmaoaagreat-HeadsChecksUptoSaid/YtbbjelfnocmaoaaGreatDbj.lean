/- Texts of this proof, joined. -/
import Derived.Test.YtbbjelfnocmaoaaGreatDbf
import Derived.Test.YtbbjelfnocmaoaaGreatDak
import Derived.Test.YtbbjelfnocmaoaaGreatDbi

/- matching: what it does -/
namespace Go.Proofs.YtbbjelfnocmaoaaGreat
open Go Go.RowKit Go.V
set_option linter.unusedVariables false
set_option linter.unusedSimpArgs false


theorem qbpi (c : List UInt8) (v : Int) (l : List Ty) : szY (.mk c v l) = 1 + szYs l := by rw [szY]
theorem qbok (c : List UInt8) (v : Int) (l : List Ty) : dpY (.mk c v l) = 1 + dpYs l := by rw [dpY]

/-! the reference's -/

def plnI (n : Int) (p : Pd) : Bool := conW p.cls && (decide (p.ty.con = []) && (decide (p.ty.args.length = 0) && (decide (0 ≤ p.ty.var) && decide (p.ty.var < n))))
def hdI (x : Ins) : Bool := conW x.cls && ((conW x.con || (decide (x.con = arrW) && decide (x.n = 2))) && (decide (0 ≤ x.n) && decide (x.n ≤ 100)))
def chkI (x : Ins) : Int := if hdI x = true ∧ x.ps.all (plnI x.n) = true then 0 else 10
def fndI (cls con : List UInt8) : List Ins → Nat → Int × Bool
 | [], _ => (0, false)
 | x :: r, i => if x.cls = cls ∧ x.con = con then ((i : Int), true) else fndI cls con r (i + 1)
def qd2 : List Ty → Nat → List Pr → List Pr
 | [], _, s => s
 | t :: r, i, s => qd2 r (i + 1) (setR s i t).1
def byI (l : List Ins) (p : Pd) : Int × List Pd × Bool :=
 if (fndI p.cls p.ty.con l 0).2 = true ∧ p.ty.con ≠ [] ∧ (l.getD (fndI p.cls p.ty.con l 0).1.toNat I0).n = p.ty.args.length then
  ((fndI p.cls p.ty.con l 0).1, (prdR (qd2 p.ty.args 0 []) [] (l.getD (fndI p.cls p.ty.con l 0).1.toNat I0).ps).1, true)
 else (0, [], false)
def qdo (x : Ins) : Ty := .mk x.con 0 ((List.range x.n.toNat).map fun (i : Nat) => .mk [] (i : Int) [])

theorem qjn {cls con : List UInt8} {l : List Ins} {i : Nat} (h : i < l.length) : fndI cls con (l.drop i) i = if (l.getD i I0).cls = cls ∧ (l.getD i I0).con = con then ((i : Int), true) else fndI cls con (l.drop (i + 1)) (i + 1) := by rw [qbpb h, fndI]
theorem ql9 {cls con : List UInt8} {l : List Ins} {i : Nat} (h : l.length ≤ i) (k : Nat) : fndI cls con (l.drop i) k = (0, false) := by rw [List.drop_of_length_le h, fndI]
theorem qll {cls con : List UInt8} : ∀ (l : List Ins) (k : Nat), (fndI cls con l k).2 = true → ∃ j, (fndI cls con l k).1 = ((k + j : Nat) : Int) ∧ j < l.length ∧ (l.getD j I0).cls = cls ∧ (l.getD j I0).con = con
 | [], k, h => by rw [fndI] at h; cases h
 | x :: r, k, h => by
   rw [fndI] at h ⊢
   by_cases hx : x.cls = cls ∧ x.con = con
   ·rw [if_pos hx]; exact ⟨0, rfl, by simp, hx.1, hx.2⟩
   ·rw [if_neg hx] at h ⊢
    obtain ⟨j, h1, h2, h3, h4⟩ := qll r (k + 1) h
    exact ⟨j + 1, by rw [h1]; congr 1; omega, by simpa using h2, h3, h4⟩
theorem qro : ∀ (r : List Ty) (i : Nat) (s : List Pr), okS s → okS (qd2 r i s) ∧ (qd2 r i s).length ≤ s.length + r.length
 | [], i, s, h => ⟨h, by simp [qd2]⟩
 | t :: r, i, s, h => by
   have h1 := qro r (i + 1) _ (qqe h i t)
   have h2 := qsb s i t
   rw [qd2, List.length_cons]
   exact ⟨h1.1, by omega⟩
theorem qu0 (v : Int) : qy (.mk [] v []) = true := by
 refine (qbe _).2 ⟨by simp [szY, szYs], by simp [dpY, dpYs], ?_⟩
 rw [qbn, qv, Bool.true_and]
 rfl
theorem qg1 {x : Ins} (h : chkI x = 0) : qy (qdo x) = true := by
 have hx : hdI x = true := by
  rw [chkI] at h
  split at h
  ·rename_i h1; exact h1.1
  ·cases h
 simp only [hdI, Bool.and_eq_true, Bool.or_eq_true, decide_eq_true_eq] at hx
 obtain ⟨_, h2, h3, h4⟩ := hx
 have hargs : ∀ (n : Nat) (f : Nat → Int), szYs ((List.range n).map fun (i : Nat) => .mk [] (f i) []) = n ∧ dpYs ((List.range n).map fun (i : Nat) => .mk [] (f i) []) ≤ 1 ∧ qv ((List.range n).map fun (i : Nat) => .mk [] (f i) []) = true := fun n f => by
  induction n with
  | zero => exact ⟨rfl, by simp [dpYs], rfl⟩
  | succ n ih =>
    obtain ⟨q1, q2, q3⟩ := ih
    have hd : ∀ a b : List Ty, dpYs (a ++ b) = max (dpYs a) (dpYs b) := fun a b => by
     induction a with
     | nil => simp [dpYs]
     | cons y r ih => rw [List.cons_append, dpYs, dpYs, ih]; omega
    have hsh : ∀ a b : List Ty, qv (a ++ b) = (qv a && qv b) := fun a b => by
     induction a with
     | nil => simp [qv]
     | cons y r ih => rw [List.cons_append, qv, qv, ih, Bool.and_assoc]
    rw [List.range_succ, List.map_append, qq4, hd, hsh, q1, q3]
    refine ⟨by simp [szYs, szY], by simp only [List.map_cons, List.map_nil, dpYs, dpY]; omega, ?_⟩
    have := ((qbe _).1 (qu0 (f n))).2.2
    simp only [List.map_cons, List.map_nil, qv, this, Bool.and_true]
 obtain ⟨q1, q2, q3⟩ := hargs x.n.toNat fun i => (i : Int)
 refine (qbe _).2 ⟨by rw [qdo, qbpi, q1]; omega, by rw [qdo, qbok]; omega, ?_⟩
 rw [qdo, qbn, q3, Bool.true_and, mayW]
 show (if x.con = [] then _ else _) = true
 have hlen : ((Ty.mk x.con 0 ((List.range x.n.toNat).map fun (i : Nat) => .mk [] (i : Int) [])).args.length : Int) = x.n.toNat := by
  show ((((List.range x.n.toNat).map fun (i : Nat) => Ty.mk [] (i : Int) []).length : Nat) : Int) = _
  rw [List.length_map, List.length_range]
 rcases h2 with hc | ⟨hc, hn⟩
 ·have hne : x.con ≠ [] := fun e => by rw [e] at hc; simp [conW] at hc
  have hgr : qee (x.con.getD 0 0).toNat = true := by
   cases hq : x.con with
   | nil => exact absurd hq hne
   | cons c r => rw [hq] at hc; simp only [conW, Bool.and_eq_true] at hc; simp_all
  have ha : x.con ≠ arrW := fun e => by rw [e] at hgr; simp [arrW, qee] at hgr
  have hf : fixW x.con = false := by
   rw [fixW]
   cases hp : pfx [33] x.con with
   | false => rfl
   | true =>
     exfalso
     cases hq : x.con with
     | nil => exact hne hq
     | cons c r =>
       rw [hq] at hp hgr
       simp only [pfx, decide_eq_true_eq, List.length_singleton, List.take_succ_cons, List.take_zero, List.cons.injEq, and_true] at hp
       subst hp
       simp [qee] at hgr
  rw [if_neg hne, if_neg ha, if_neg (by simp [hf])]
  show (decide ((0 : Int) = 0) && conW x.con) = true
  rw [hc]; rfl
 ·rw [if_neg (by rw [hc]; simp [arrW]), if_pos hc, List.length_map, List.length_range, hn]; rfl
set_option maxRecDepth 4000

theorem qqa (p : Pd) (n : Int) : qg Tryz.prog 26 [encP p, .int .i64 n] (.bool (plnI n p)) := by
 refine qd c0cg (by simp) (by simp only [go_sem]) rfl fun hw => ?_
 repeat' (first | refine vs_ ?_ | ((first | refine vr_ ?_ | refine qa (qgr _) fun _ => ?_ | (refine cs_ ?_ ?_ <;> intro hc) | refine cj_ ?_ | fail) <;> (try refine ev_ ?_)) | with_reducible exact ti_)
 all_goals simp_all [plnI]
 all_goals omega
theorem qg0 (l : List Ins) (cls con : List UInt8) : qg Tryz.prog 10 [.sl 4 (qbo l), .str cls, .str con] (.tup [.int .i64 (fndI cls con l 0).1, .bool (fndI cls con l 0).2]) := by
 refine qd c0ch (by simp) (by simp only [go_sem]) rfl fun hw => ?_
 have hl := (qe6 hw.1).1
 repeat' (first | refine vs_ ?_ | ((first | refine vr_ ?_ | (refine cs_ ?_ ?_ <;> intro hc) | refine cj_ ?_ | simp (disch := omega) only [encs_getN, qb]) <;> (try refine ev_ ?_)) | with_reducible exact ti_)
 refine qm (S := Nat) (fun i => i ≤ l.length ∧ fndI cls con (l.drop i) i = fndI cls con l 0) (fun i => (⟨[(1, .str cls), (2, .str con), (10, .sl 4 (qbo l)), (11, .int .i64 l.length), (12, .int .i64 i)], []⟩, [])) (fun i => l.length - i) ?_ fun i hi => ?_
 ·refine qh 0 [] ⟨Nat.zero_le _, rfl⟩ rfl (by simp) ?_ ?_ ?_ <;> (try refine ev_ ?_) <;> (try with_reducible exact ti_) <;> (try simp (disch := omega) only [qb, and_true, true_and])
 ·obtain ⟨hi, ha⟩ := hi
  by_cases hlt : i < l.length
  ·have hg := qcl hlt
   rw [qjn hlt] at ha
   repeat' (first | refine vs_ ?_ | ((first | refine vr_ ?_ | fail) <;> (try simp (disch := first | omega | (simp only [List.length_set, List.length_append, List.length_cons, List.length_nil]; done) | (simp only [List.length_set, List.length_append, List.length_cons, List.length_nil]; omega)) only [hg, qb, go_sem, ↓reduceIte])) | ((first | simp (disch := omega) only [hg] | (refine cs_ ?_ ?_ <;> intro hc) | refine cj_ ?_ | simp (disch := omega) only [encs_getN, qb]) <;> (try refine ev_ ?_)) | with_reducible exact ti_)
   all_goals try (exfalso; omega)
   ·rw [if_pos ⟨by assumption, by assumption⟩] at ha
    rw [← ha]
   all_goals (rw [if_neg (by rintro ⟨a, b⟩; contradiction)] at ha)
   all_goals (refine qh (i + 1) [] ⟨⟨by omega, ha⟩, by omega⟩ rfl (by simp) ?_ ?_ ?_ <;> (try refine ev_ ?_) <;> (try with_reducible exact ti_) <;> (try simp (disch := omega) only [qb, and_true, true_and]))
  ·rw [ql9 (by omega)] at ha
   repeat' (first | refine vs_ ?_ | ((first | refine vr_ ?_ | (refine cs_ ?_ ?_ <;> intro hc) | refine cj_ ?_ | simp (disch := omega) only [encs_getN, qb]) <;> (try refine ev_ ?_)) | with_reducible exact ti_)
   all_goals first | (exfalso; omega) | (rw [← ha])
theorem qk1 : ∀ (a : List Ty) (t : Ty) (k : Nat) (s : List Pr), qd2 (a ++ [t]) k s = (setR (qd2 a k s) ((k + a.length : Nat) : Int) t).1
 | [], t, k, s => rfl
 | x :: a, t, k, s => by
   rw [List.cons_append, qd2, qd2, qk1 a t (k + 1), List.length_cons, show k + 1 + a.length = k + (a.length + 1) by omega]
theorem qtj {l : List Ty} {i : Nat} (h : i < l.length) (s : List Pr) : qd2 (l.take (i + 1)) 0 s = (setR (qd2 (l.take i) 0 s) (i : Int) (l.getD i Y0)).1 := by
 have h1 : l.take (i + 1) = l.take i ++ [l.getD i Y0] := by
  rw [List.take_add_one, List.getD_eq_getElem?_getD, List.getElem?_eq_getElem h]; rfl
 rw [h1, qk1, List.length_take, Nat.min_eq_left (Nat.le_of_lt h), Nat.zero_add]
def smlI (x : Ins) : Prop := x.ps.length ≤ 1000 ∧ ∀ p ∈ x.ps, szY p.ty ≤ 20000 ∧ dpY p.ty ≤ 300
def byA (r : Int × List Pd × Bool) : AV := .tup [.int .i64 r.1, .sl 4 (qu r.2.1), .bool r.2.2]
theorem qbh5 {l : List Ins} {p : Pd} (h : (fndI p.cls p.ty.con l 0).2 = false) : byI l p = (0, [], false) := by rw [byI, if_neg (by simp [h])]
theorem qbfj {l : List Ins} {p : Pd} (h : p.ty.con = []) : byI l p = (0, [], false) := by rw [byI, if_neg (by simp [h])]
theorem qbdh {l : List Ins} {p : Pd} {j : Nat} (hj : (fndI p.cls p.ty.con l 0).1 = j) (h : ¬ (l.getD j I0).n = p.ty.args.length) : byI l p = (0, [], false) := by
 rw [byI, if_neg]
 rintro ⟨_, _, h3⟩
 rw [hj] at h3
 exact h h3
theorem qbg0 {l : List Ins} {p : Pd} {j : Nat} (h2 : (fndI p.cls p.ty.con l 0).2 = true) (hj : (fndI p.cls p.ty.con l 0).1 = j) (hc : p.ty.con ≠ []) (h : (l.getD j I0).n = p.ty.args.length) : byI l p = ((j : Int), (prdR (qd2 p.ty.args 0 []) [] (l.getD j I0).ps).1, true) := by
 have hj' : (fndI p.cls p.ty.con l 0).1.toNat = j := by rw [hj]; simp
 rw [byI, if_pos ⟨h2, hc, by rw [hj']; exact h⟩, hj', hj]
set_option maxHeartbeats 1000000 in
theorem q0s {l : List Ins} {p : Pd} (hs : ∀ x ∈ l, smlI x) (h1 : szY p.ty ≤ 20000) (h2 : dpY p.ty ≤ 300) : qg Tryz.prog 17 [.sl 4 (qbo l), encP p] (byA (byI l p)) := by
 refine qd c0ci (by simp) (by simp only [go_sem]) (by simp only [byA, AV.bd, AV.bds, qcx, Bool.and_true]) fun hw => ?_
 have hl := (qe6 hw.1).1
 have hF := qg0 l p.cls p.ty.con
 have hko := qcc (qo1 hw.2.1).2
 cases hf : (fndI p.cls p.ty.con l 0).2 with
 | false =>
   rw [hf] at hF
   rw [qbh5 hf]
   repeat' (first | refine vs_ ?_ | ((first | refine vr_ ?_ | refine qa hF fun _ => ?_ | refine qc hF ?_ | (refine cs_ ?_ ?_ <;> intro hc) | refine cj_ ?_ | simp (disch := omega) only [encs_getN, qb]) <;> (try refine ev_ ?_)) | with_reducible exact ti_)
   all_goals rfl
 | true =>
   obtain ⟨j, hj, hjl, hj1, hj2⟩ := qll l 0 hf
   rw [Nat.zero_add] at hj
   rw [hf, hj] at hF
   have hg := qcl hjl
   by_cases hc : p.ty.con = []
   ·rw [qbfj hc]
    rw [hc] at hF
    repeat' (first | refine vs_ ?_ | ((first | refine vr_ ?_ | fail) <;> (try simp only [hc, go_sem, ↓reduceIte])) | ((first | (refine cs_ ?_ ?_ <;> intro hc) | refine cj_ ?_ | simp (disch := omega) only [encs_getN, qb] | refine qa hF fun _ => ?_ | refine qc hF ?_) <;> (try refine ev_ ?_)) | with_reducible exact ti_)
    all_goals rfl
   by_cases hn : (l.getD j I0).n = p.ty.args.length
   case neg =>
    rw [qbdh hj hn]
    repeat' (first | refine vs_ ?_ | ((first | refine vr_ ?_ | fail) <;> (try simp only [hc, hg, hn, go_sem, ↓reduceIte])) | ((first | simp (disch := omega) only [hg] | (refine cs_ ?_ ?_ <;> intro hc) | refine cj_ ?_ | simp (disch := omega) only [encs_getN, qb] | refine qa hF fun _ => ?_ | refine qc hF ?_) <;> (try refine ev_ ?_)) | with_reducible exact ti_)
    all_goals rfl
   rw [qbg0 hf hj hc hn]
   repeat' (first | refine vs_ ?_ | ((first | refine vr_ ?_ | fail) <;> (try simp only [hc, hg, hn, go_sem, ↓reduceIte])) | ((first | simp (disch := omega) only [hg] | (refine cs_ ?_ ?_ <;> intro hc) | refine cj_ ?_ | simp (disch := omega) only [encs_getN, qb] | refine qa hF fun _ => ?_ | refine q3v q0g rfl rfl ?_ | refine qc hF ?_) <;> (try refine ev_ ?_)) | with_reducible exact ti_)
   obtain ⟨args, hargs⟩ : ∃ a, p.ty.args = a := ⟨_, rfl⟩
   have hba : ∀ a ∈ args, szY a ≤ 20000 ∧ dpY a ≤ 300 := fun a ha => by
    rw [← hargs] at ha
    have q1 := qez ha
    have q2 := qmg ha
    rw [qfh] at h1
    rw [qqq] at h2
    omega
   have hal : args.length ≤ 20000 := by
    have := qf4 args
    rw [qfh, hargs] at h1
    omega
   rw [hargs]
   refine qm (S := Nat) (fun i => i ≤ args.length) (fun i => (⟨[(0, .sl 4 (qbo l)), (3, .ptr 0 0), (7, .int .i64 j), (9, .ptr 1 0), (47, .sl 3 (qj args)), (48, .int .i64 args.length), (49, .int .i64 i)], []⟩, [.blk [.str p.cls, .str p.ty.con, .int .i64 p.ty.var, .sl 3 (qj args)], subE (qd2 (args.take i) 0 [])])) (fun i => args.length - i) ?_ fun i hi => ?_
   ·refine qh 0 [0, 1] (Nat.zero_le _) rfl (by simp) ?_ ?_ ?_ <;> (try refine ev_ ?_) <;> (try with_reducible exact ti_) <;> (try simp (disch := omega) only [qb, and_true, true_and])
    all_goals rfl
   ·obtain ⟨ho, hlen⟩ := qro (args.take i) 0 [] qpd
    rw [List.length_take, Nat.min_eq_left hi, List.length_nil, Nat.zero_add] at hlen
    by_cases hlt : i < args.length
    ·have hgy := qs hlt
     obtain ⟨q1, q2⟩ := hba _ (q7 hlt)
     have hS := qlz ho.1 (by omega) (i : Int) q1 q2
     rw [← qtj hlt] at hS
     have hby : AV.bds 0 [.int .i64 i, encY (args.getD i Y0)] = true := by simp only [AV.bds, AV.bd, qbp, Bool.and_true]
     repeat' (first | refine vs_ ?_ | ((first | refine vr_ ?_ | fail) <;> (try simp (disch := first | omega | (simp only [List.length_set, List.length_append, List.length_cons, List.length_nil]; done) | (simp only [List.length_set, List.length_append, List.length_cons, List.length_nil]; omega)) only [hgy, qb, go_sem, ↓reduceIte])) | ((first | simp (disch := omega) only [hgy] | (refine cs_ ?_ ?_ <;> intro hc) | refine cj_ ?_ | simp (disch := omega) only [encs_getN, qb] | refine qhf 1 hS hby rfl ?_) <;> (try refine ev_ ?_)) | with_reducible exact ti_)
     all_goals try (exfalso; omega)
     ·refine qh (i + 1) [0, 1] ⟨by omega, by omega⟩ rfl (by simp) ?_ ?_ ?_ <;> (try refine ev_ ?_) <;> (try with_reducible exact ti_) <;> (try simp (disch := omega) only [qb, and_true, true_and])
      rw [qt (by omega) (by omega), Int.natCast_add]; rfl
    ·have hia : i = args.length := by omega
     subst hia
     rw [List.take_length] at ho hlen ⊢
     obtain ⟨r1, r2⟩ := hs _ (qnw hjl)
     have hP := qx5 ho (by omega) r1 r2
     have hT : prdA (prdR (qd2 args 0 []) [] (l.getD j I0).ps) = .tup [.sl 4 (qu (prdR (qd2 args 0 []) [] (l.getD j I0).ps).1), .int .i64 (prdR (qd2 args 0 []) [] (l.getD j I0).ps).2] := rfl
     rw [hT] at hP
     have hb1 : AV.bd 0 (.tup [.sl 4 (qu (prdR (qd2 args 0 []) [] (l.getD j I0).ps).1), .int .i64 (prdR (qd2 args 0 []) [] (l.getD j I0).ps).2]) = true := qyd 0 _
     have hb2 : AV.bds 0 [.sl 4 (qu (l.getD j I0).ps)] = true := by simp only [AV.bds, AV.bd, qcx, Bool.and_true]
     repeat' (first | refine vs_ ?_ | ((first | refine vr_ ?_ | fail) <;> (try simp only [hg, go_sem, ↓reduceIte])) | ((first | simp (disch := omega) only [hg] | (refine cs_ ?_ ?_ <;> intro hc) | refine cj_ ?_ | simp (disch := omega) only [encs_getN, qb] | refine qhf 1 hP hb2 hb1 ?_) <;> (try refine ev_ ?_)) | with_reducible exact ti_)
     all_goals try (exfalso; omega)
     all_goals rfl
end Go.Proofs.YtbbjelfnocmaoaaGreat
