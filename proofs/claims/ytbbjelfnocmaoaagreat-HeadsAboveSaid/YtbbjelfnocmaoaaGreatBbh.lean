/- Texts of this proof, joined. -/
import Derived.Test.YtbbjelfnocmaoaaGreatBak
import Derived.Test.YtbbjelfnocmaoaaGreatBbf
import Derived.Test.YtbbjelfnocmaoaaGreatBbg
import Derived.Test.YtbbjelfnocmaoaaGreatBbe

/- instances' heads: what they do -/
namespace Go.Proofs.YtbbjelfnocmaoaaGreat
open Go Go.RowKit Go.V
set_option linter.unusedVariables false
set_option linter.unusedSimpArgs false

def plnI (n : Int) (p : Pd) : Bool := conW p.cls && (decide (p.ty.con = []) && (decide (p.ty.args.length = 0) && (decide (0 ≤ p.ty.var) && decide (p.ty.var < n))))
def hdI (x : Ins) : Bool := conW x.cls && ((conW x.con || (decide (x.con = arrW) && decide (x.n = 2))) && (decide (0 ≤ x.n) && decide (x.n ≤ 100)))
def chkI (x : Ins) : Int := if hdI x = true ∧ x.ps.all (plnI x.n) = true then 0 else 10
def fndI (cls con : List UInt8) : List Ins → Nat → Int × Bool
 | [], _ => (0, false)
 | x :: r, i => if x.cls = cls ∧ x.con = con then ((i : Int), true) else fndI cls con r (i + 1)
def qbp : List Ty → Nat → List Pr → List Pr
 | [], _, s => s
 | t :: r, i, s => qbp r (i + 1) (setR s i t).1
def byI (l : List Ins) (p : Pd) : Int × List Pd × Bool :=
 if (fndI p.cls p.ty.con l 0).2 = true ∧ p.ty.con ≠ [] ∧ (l.getD (fndI p.cls p.ty.con l 0).1.toNat I0).n = p.ty.args.length then
  ((fndI p.cls p.ty.con l 0).1, (prdR (qbp p.ty.args 0 []) [] (l.getD (fndI p.cls p.ty.con l 0).1.toNat I0).ps).1, true)
 else (0, [], false)
def qeu (x : Ins) : Ty := .mk x.con 0 ((List.range x.n.toNat).map fun (i : Nat) => .mk [] (i : Int) [])

theorem qj5 {cls con : List UInt8} {l : List Ins} {i : Nat} (h : i < l.length) : fndI cls con (l.drop i) i = if (l.getD i I0).cls = cls ∧ (l.getD i I0).con = con then ((i : Int), true) else fndI cls con (l.drop (i + 1)) (i + 1) := by rw [qbm1 h, fndI]
theorem qlo {cls con : List UInt8} {l : List Ins} {i : Nat} (h : l.length ≤ i) (k : Nat) : fndI cls con (l.drop i) k = (0, false) := by rw [List.drop_of_length_le h, fndI]
theorem qlq {cls con : List UInt8} : ∀ (l : List Ins) (k : Nat), (fndI cls con l k).2 = true → ∃ j, (fndI cls con l k).1 = ((k + j : Nat) : Int) ∧ j < l.length ∧ (l.getD j I0).cls = cls ∧ (l.getD j I0).con = con
 | [], k, h => by rw [fndI] at h; cases h
 | x :: r, k, h => by
   rw [fndI] at h ⊢
   by_cases hx : x.cls = cls ∧ x.con = con
   ·rw [if_pos hx]; exact ⟨0, rfl, by simp, hx.1, hx.2⟩
   ·rw [if_neg hx] at h ⊢
    obtain ⟨j, h1, h2, h3, h4⟩ := qlq r (k + 1) h
    exact ⟨j + 1, by rw [h1]; congr 1; omega, by simpa using h2, h3, h4⟩
theorem qh6 : ∀ (r : List Ty) (i : Nat) (s : List Pr), okS s → okS (qbp r i s) ∧ (qbp r i s).length ≤ s.length + r.length
 | [], i, s, h => ⟨h, by simp [qbp]⟩
 | t :: r, i, s, h => by
   have h1 := qh6 r (i + 1) _ (qly h i t)
   have h2 := ql1 s i t
   rw [qbp, List.length_cons]
   exact ⟨h1.1, by omega⟩
theorem qm6 : ∀ (r : List Ty) (i : Nat) (s : List Pr) (x : Int) (u : Ty), (∀ t ∈ r, qg t = true) → qq x s = some u → qq x (qbp r i s) = some u
 | [], i, s, x, u, _, h => h
 | t :: r, i, s, x, u, hl, h => by
   rw [qbp]
   refine qm6 r (i + 1) _ x u (fun y hy => hl y (by simp [hy])) ?_
   rw [qnd (hl t (by simp)), h]
theorem qk0 : ∀ (r : List Ty) (i : Nat) (s : List Pr), (∀ t ∈ r, qg t = true) → (∀ q ∈ s, q.v < i) → ∀ k, k < r.length → qq ((i + k : Nat) : Int) (qbp r i s) = some (r.getD k Y0)
 | [], i, s, _, _, k, hk => by simp at hk
 | t :: r, i, s, hl, hs, k, hk => by
   rw [qbp]
   have hn : qq (i : Int) s = none := qm0 fun q hq => by have := hs q hq; omega
   have ht := hl t (by simp)
   have h0 : qq (i : Int) (setR s i t).1 = some t := by rw [qnd ht, hn]; simp
   cases k with
   | zero => exact qm6 r (i + 1) _ _ _ (fun y hy => hl y (by simp [hy])) h0
   | succ k =>
     have h1 := qk0 r (i + 1) (setR s i t).1 (fun y hy => hl y (by simp [hy])) (fun q hq => by
      rw [qe8 ht hn] at hq
      rcases insR_mem.1 hq with rfl | hq
      ·push_cast; omega
      ·have := hs q hq; push_cast; omega) k (by simpa using hk)
     rw [show i + (k + 1) = i + 1 + k by omega]
     exact h1
theorem qn0 (v : Int) : qg (.mk [] v []) = true := by
 refine (qs _).2 ⟨by simp [szY, szYs], by simp [dpY, dpYs], ?_⟩
 rw [qbe, qt, Bool.true_and]
 rfl
theorem q4r {n : Int} {p : Pd} (h : plnI n p = true) : p.ty = .mk [] p.ty.var [] ∧ 0 ≤ p.ty.var ∧ p.ty.var < n := by
 simp only [plnI, Bool.and_eq_true, decide_eq_true_eq] at h
 obtain ⟨_, h2, h3, h4, h5⟩ := h
 exact ⟨ty_eq.2 ⟨⟨h2, rfl⟩, List.length_eq_zero_iff.1 h3⟩, h4, h5⟩
theorem q6d {args : List Ty} (hl : ∀ t ∈ args, qg t = true) {v : Int} (h0 : 0 ≤ v) (h1 : v < args.length) : appR (qbp args 0 []) (.mk [] v []) = (args.getD v.toNat Y0, 0) := by
 have hs := (qh6 args 0 [] qg8).1
 have hk := qk0 args 0 [] hl (fun q hq => by simp at hq) v.toNat (by omega)
 rw [show ((0 + v.toNat : Nat) : Int) = v by omega] at hk
 have hg := hl _ (qx (l := args) (i := v.toNat) (by omega))
 have hp : putY (qbp args 0 []) (.mk [] v []) = args.getD v.toNat Y0 := by rw [putY, if_pos rfl, hk]
 rw [qqy hs, if_pos (qn0 v), hp, if_pos hg]
theorem qr1 {s : List Pr} : ∀ (ps acc : List Pd), (∀ p ∈ ps, (appR s p.ty).2 = 0) → prdR s acc ps = (acc ++ ps.map (fun p => ⟨p.cls, (appR s p.ty).1⟩), 0)
 | [], acc, _ => by simp [prdR]
 | p :: r, acc, h => by
   rw [prdR, if_pos (h p (by simp)), qr1 r _ fun q hq => h q (by simp [hq])]
   simp
theorem qhd {x : Ins} (h : chkI x = 0) : qg (qeu x) = true := by
 have hx : hdI x = true := by
  rw [chkI] at h
  split at h
  ·rename_i h1; exact h1.1
  ·cases h
 simp only [hdI, Bool.and_eq_true, Bool.or_eq_true, decide_eq_true_eq] at hx
 obtain ⟨_, h2, h3, h4⟩ := hx
 have hargs : ∀ (n : Nat) (f : Nat → Int), szYs ((List.range n).map fun (i : Nat) => .mk [] (f i) []) = n ∧ dpYs ((List.range n).map fun (i : Nat) => .mk [] (f i) []) ≤ 1 ∧ qt ((List.range n).map fun (i : Nat) => .mk [] (f i) []) = true := fun n f => by
  induction n with
  | zero => exact ⟨rfl, by simp [dpYs], rfl⟩
  | succ n ih =>
    obtain ⟨q1, q2, q3⟩ := ih
    have hd : ∀ a b : List Ty, dpYs (a ++ b) = max (dpYs a) (dpYs b) := fun a b => by
     induction a with
     | nil => simp [dpYs]
     | cons y r ih => rw [List.cons_append, dpYs, dpYs, ih]; omega
    have hsh : ∀ a b : List Ty, qt (a ++ b) = (qt a && qt b) := fun a b => by
     induction a with
     | nil => simp [qt]
     | cons y r ih => rw [List.cons_append, qt, qt, ih, Bool.and_assoc]
    rw [List.range_succ, List.map_append, q2s, hd, hsh, q1, q3]
    refine ⟨by simp [szYs, szY], by simp only [List.map_cons, List.map_nil, dpYs, dpY]; omega, ?_⟩
    have := ((qs _).1 (qn0 (f n))).2.2
    simp only [List.map_cons, List.map_nil, qt, this, Bool.and_true]
 obtain ⟨q1, q2, q3⟩ := hargs x.n.toNat fun i => (i : Int)
 refine (qs _).2 ⟨by rw [qeu, q4k, q1]; omega, by rw [qeu, q4j]; omega, ?_⟩
 rw [qeu, qbe, q3, Bool.true_and, mayW]
 show (if x.con = [] then _ else _) = true
 have hlen : ((Ty.mk x.con 0 ((List.range x.n.toNat).map fun (i : Nat) => .mk [] (i : Int) [])).args.length : Int) = x.n.toNat := by
  show ((((List.range x.n.toNat).map fun (i : Nat) => Ty.mk [] (i : Int) []).length : Nat) : Int) = _
  rw [List.length_map, List.length_range]
 rcases h2 with hc | ⟨hc, hn⟩
 ·have hne : x.con ≠ [] := fun e => by rw [e] at hc; simp [conW] at hc
  have hgr : qeg (x.con.getD 0 0).toNat = true := by
   cases hq : x.con with
   | nil => exact absurd hq hne
   | cons c r => rw [hq] at hc; simp only [conW, Bool.and_eq_true] at hc; simp_all
  have ha : x.con ≠ arrW := fun e => by rw [e] at hgr; simp [arrW, qeg] at hgr
  have hf : fixW x.con = false := by
   rw [fixW]
   cases hp : pfx [33] x.con with
   | false => rfl
   | true =>
     exfalso
     cases hq : x.con with
     | nil => exact hne hq
     | cons c r =>
       rw [hq] at hp hgr
       simp only [pfx, decide_eq_true_eq, List.length_singleton, List.take_succ_cons, List.take_zero, List.cons.injEq, and_true] at hp
       subst hp
       simp [qeg] at hgr
  rw [if_neg hne, if_neg ha, if_neg (by simp [hf])]
  show (decide ((0 : Int) = 0) && conW x.con) = true
  rw [hc]; rfl
 ·rw [if_neg (by rw [hc]; simp [arrW]), if_pos hc, List.length_map, List.length_range, hn]; rfl
theorem qt2 {x : Ins} {t : Ty} (h : chkI x = 0) (ht : qg t = true) (hc : x.con = t.con) (hn : x.n = t.args.length) (hne : t.con ≠ []) : abvP (qeu x) t = true := by
 refine (qbce (qhd h) ht).2 ⟨fun v => t.args.getD v.toNat Y0, ?_⟩
 rw [qeu, subF, if_neg (by rw [hc]; exact hne)]
 have hv : t.var = 0 := qma ((qs t).1 ht).2.2 hne
 refine ty_eq.2 ⟨⟨hc, hv.symm⟩, ?_⟩
 have hs : ∀ (l : List Nat), qc6 (fun v => t.args.getD v.toNat Y0) (l.map fun (i : Nat) => .mk [] (i : Int) []) = l.map fun (i : Nat) => t.args.getD i Y0 := fun l => by
  induction l with
  | nil => rfl
  | cons a r ih => rw [List.map_cons, List.map_cons, qc6, ih, subF, if_pos rfl]; rfl
 show qc6 _ _ = t.args
 rw [hs, show x.n.toNat = t.args.length by omega]
 apply List.ext_getElem
 ·simp
 ·intro j h1 h2
  rw [List.getElem_map, List.getElem_range, List.getD_eq_getElem?_getD, List.getElem?_eq_getElem h2]; rfl
theorem q14 {x : Ins} {t : Ty} (h : chkI x = 0) (ht : qg t = true) (hn : x.n = t.args.length) :
 prdR (qbp t.args 0 []) [] x.ps = (x.ps.map (fun p => ⟨p.cls, t.args.getD p.ty.var.toNat Y0⟩), 0) ∧ ∀ p ∈ x.ps, szY (t.args.getD p.ty.var.toNat Y0) < szY t := by
 have hp : x.ps.all (plnI x.n) = true := by
  rw [chkI] at h
  split at h
  ·rename_i h1; exact h1.2
  ·cases h
 have hl : ∀ a ∈ t.args, qg a = true := fun a ha => qwm ht ha
 have ha : ∀ p ∈ x.ps, appR (qbp t.args 0 []) p.ty = (t.args.getD p.ty.var.toNat Y0, 0) := fun p hp' => by
  obtain ⟨q1, q2, q3⟩ := q4r (List.all_eq_true.1 hp p hp')
  rw [q1]
  exact q6d hl q2 (by omega)
 refine ⟨?_, fun p hp' => ?_⟩
 ·rw [qr1 x.ps [] fun p hp' => by rw [ha p hp'], List.nil_append]
  congr 1
  exact List.map_congr_left fun p hp' => by rw [ha p hp']
 ·obtain ⟨q1, q2, q3⟩ := q4r (List.all_eq_true.1 hp p hp')
  have := qdc (qx (l := t.args) (i := p.ty.var.toNat) (by omega))
  rw [qcw t]; omega
set_option maxRecDepth 4000

theorem qqv (p : Pd) (n : Int) : qj Tryz.prog 26 [encP p, .int .i64 n] (.bool (plnI n p)) := by
 refine qd c0h (by simp) (by simp only [go_sem]) rfl fun hw => ?_
 repeat' (first | refine vs_ ?_ | ((first | refine vr_ ?_ | refine qa (qf5 _) fun _ => ?_ | (refine cs_ ?_ ?_ <;> intro hc) | refine cj_ ?_ | fail) <;> (try refine ev_ ?_)) | with_reducible exact ti_)
 all_goals simp_all [plnI]
 all_goals omega
theorem qlj (l : List Ins) (cls con : List UInt8) : qj Tryz.prog 10 [.sl 4 (qbo l), .str cls, .str con] (.tup [.int .i64 (fndI cls con l 0).1, .bool (fndI cls con l 0).2]) := by
 refine qd c0i (by simp) (by simp only [go_sem]) rfl fun hw => ?_
 have hl := (qdp hw.1).1
 repeat' (first | refine vs_ ?_ | ((first | refine vr_ ?_ | (refine cs_ ?_ ?_ <;> intro hc) | refine cj_ ?_ | simp (disch := omega) only [encs_getN, qb]) <;> (try refine ev_ ?_)) | with_reducible exact ti_)
 refine qo (S := Nat) (fun i => i ≤ l.length ∧ fndI cls con (l.drop i) i = fndI cls con l 0) (fun i => (⟨[(1, .str cls), (2, .str con), (10, .sl 4 (qbo l)), (11, .int .i64 l.length), (12, .int .i64 i)], []⟩, [])) (fun i => l.length - i) ?_ fun i hi => ?_
 ·refine qh 0 [] ⟨Nat.zero_le _, rfl⟩ rfl (by simp) ?_ ?_ ?_ <;> (try refine ev_ ?_) <;> (try with_reducible exact ti_) <;> (try simp (disch := omega) only [qb, and_true, true_and])
 ·obtain ⟨hi, ha⟩ := hi
  by_cases hlt : i < l.length
  ·have hg := qci hlt
   rw [qj5 hlt] at ha
   repeat' (first | refine vs_ ?_ | ((first | refine vr_ ?_ | fail) <;> (try simp (disch := first | omega | (simp only [List.length_set, List.length_append, List.length_cons, List.length_nil]; done) | (simp only [List.length_set, List.length_append, List.length_cons, List.length_nil]; omega)) only [hg, qb, go_sem, ↓reduceIte])) | ((first | simp (disch := omega) only [hg] | (refine cs_ ?_ ?_ <;> intro hc) | refine cj_ ?_ | simp (disch := omega) only [encs_getN, qb]) <;> (try refine ev_ ?_)) | with_reducible exact ti_)
   all_goals try (exfalso; omega)
   ·rw [if_pos ⟨by assumption, by assumption⟩] at ha
    rw [← ha]
   all_goals (rw [if_neg (by rintro ⟨a, b⟩; contradiction)] at ha)
   all_goals (refine qh (i + 1) [] ⟨⟨by omega, ha⟩, by omega⟩ rfl (by simp) ?_ ?_ ?_ <;> (try refine ev_ ?_) <;> (try with_reducible exact ti_) <;> (try simp (disch := omega) only [qb, and_true, true_and]))
  ·rw [qlo (by omega)] at ha
   repeat' (first | refine vs_ ?_ | ((first | refine vr_ ?_ | (refine cs_ ?_ ?_ <;> intro hc) | refine cj_ ?_ | simp (disch := omega) only [encs_getN, qb]) <;> (try refine ev_ ?_)) | with_reducible exact ti_)
   all_goals first | (exfalso; omega) | (rw [← ha])
theorem qkx : ∀ (a : List Ty) (t : Ty) (k : Nat) (s : List Pr), qbp (a ++ [t]) k s = (setR (qbp a k s) ((k + a.length : Nat) : Int) t).1
 | [], t, k, s => rfl
 | x :: a, t, k, s => by
   rw [List.cons_append, qbp, qbp, qkx a t (k + 1), List.length_cons, show k + 1 + a.length = k + (a.length + 1) by omega]
theorem qkk {l : List Ty} {i : Nat} (h : i < l.length) (s : List Pr) : qbp (l.take (i + 1)) 0 s = (setR (qbp (l.take i) 0 s) (i : Int) (l.getD i Y0)).1 := by
 have h1 : l.take (i + 1) = l.take i ++ [l.getD i Y0] := by
  rw [List.take_add_one, List.getD_eq_getElem?_getD, List.getElem?_eq_getElem h]; rfl
 rw [h1, qkx, List.length_take, Nat.min_eq_left (Nat.le_of_lt h), Nat.zero_add]
def smlI (x : Ins) : Prop := x.ps.length ≤ 1000 ∧ ∀ p ∈ x.ps, szY p.ty ≤ 20000 ∧ dpY p.ty ≤ 300
def byA (r : Int × List Pd × Bool) : AV := .tup [.int .i64 r.1, .sl 4 (qy r.2.1), .bool r.2.2]
theorem qqj {l : List Ins} {p : Pd} (h : (fndI p.cls p.ty.con l 0).2 = false) : byI l p = (0, [], false) := by rw [byI, if_neg (by simp [h])]
theorem qqi {l : List Ins} {p : Pd} (h : p.ty.con = []) : byI l p = (0, [], false) := by rw [byI, if_neg (by simp [h])]
theorem qpd {l : List Ins} {p : Pd} {j : Nat} (hj : (fndI p.cls p.ty.con l 0).1 = j) (h : ¬ (l.getD j I0).n = p.ty.args.length) : byI l p = (0, [], false) := by
 rw [byI, if_neg]
 rintro ⟨_, _, h3⟩
 rw [hj] at h3
 exact h h3
theorem qpi {l : List Ins} {p : Pd} {j : Nat} (h2 : (fndI p.cls p.ty.con l 0).2 = true) (hj : (fndI p.cls p.ty.con l 0).1 = j) (hc : p.ty.con ≠ []) (h : (l.getD j I0).n = p.ty.args.length) : byI l p = ((j : Int), (prdR (qbp p.ty.args 0 []) [] (l.getD j I0).ps).1, true) := by
 have hj' : (fndI p.cls p.ty.con l 0).1.toNat = j := by rw [hj]; simp
 rw [byI, if_pos ⟨h2, hc, by rw [hj']; exact h⟩, hj', hj]
set_option maxHeartbeats 1000000 in
theorem qmv {l : List Ins} {p : Pd} (hs : ∀ x ∈ l, smlI x) (h1 : szY p.ty ≤ 20000) (h2 : dpY p.ty ≤ 300) : qj Tryz.prog 17 [.sl 4 (qbo l), encP p] (byA (byI l p)) := by
 refine qd c0j (by simp) (by simp only [go_sem]) (by simp only [byA, AV.bd, AV.bds, qcj, Bool.and_true]) fun hw => ?_
 have hl := (qdp hw.1).1
 have hF := qlj l p.cls p.ty.con
 have hko := qb6 (qu2 hw.2.1).2
 cases hf : (fndI p.cls p.ty.con l 0).2 with
 | false =>
   rw [hf] at hF
   rw [qqj hf]
   repeat' (first | refine vs_ ?_ | ((first | refine vr_ ?_ | refine qa hF fun _ => ?_ | refine qc hF ?_ | (refine cs_ ?_ ?_ <;> intro hc) | refine cj_ ?_ | simp (disch := omega) only [encs_getN, qb]) <;> (try refine ev_ ?_)) | with_reducible exact ti_)
   all_goals rfl
 | true =>
   obtain ⟨j, hj, hjl, hj1, hj2⟩ := qlq l 0 hf
   rw [Nat.zero_add] at hj
   rw [hf, hj] at hF
   have hg := qci hjl
   by_cases hc : p.ty.con = []
   ·rw [qqi hc]
    rw [hc] at hF
    repeat' (first | refine vs_ ?_ | ((first | refine vr_ ?_ | fail) <;> (try simp only [hc, go_sem, ↓reduceIte])) | ((first | (refine cs_ ?_ ?_ <;> intro hc) | refine cj_ ?_ | simp (disch := omega) only [encs_getN, qb] | refine qa hF fun _ => ?_ | refine qc hF ?_) <;> (try refine ev_ ?_)) | with_reducible exact ti_)
    all_goals rfl
   by_cases hn : (l.getD j I0).n = p.ty.args.length
   case neg =>
    rw [qpd hj hn]
    repeat' (first | refine vs_ ?_ | ((first | refine vr_ ?_ | fail) <;> (try simp only [hc, hg, hn, go_sem, ↓reduceIte])) | ((first | simp (disch := omega) only [hg] | (refine cs_ ?_ ?_ <;> intro hc) | refine cj_ ?_ | simp (disch := omega) only [encs_getN, qb] | refine qa hF fun _ => ?_ | refine qc hF ?_) <;> (try refine ev_ ?_)) | with_reducible exact ti_)
    all_goals rfl
   rw [qpi hf hj hc hn]
   repeat' (first | refine vs_ ?_ | ((first | refine vr_ ?_ | fail) <;> (try simp only [hc, hg, hn, go_sem, ↓reduceIte])) | ((first | simp (disch := omega) only [hg] | (refine cs_ ?_ ?_ <;> intro hc) | refine cj_ ?_ | simp (disch := omega) only [encs_getN, qb] | refine qa hF fun _ => ?_ | refine qln qlz rfl rfl ?_ | refine qc hF ?_) <;> (try refine ev_ ?_)) | with_reducible exact ti_)
   obtain ⟨args, hargs⟩ : ∃ a, p.ty.args = a := ⟨_, rfl⟩
   have hba : ∀ a ∈ args, szY a ≤ 20000 ∧ dpY a ≤ 300 := fun a ha => by
    rw [← hargs] at ha
    have q1 := qdc ha
    have q2 := qhm ha
    rw [qcw] at h1
    rw [qji] at h2
    omega
   have hal : args.length ≤ 20000 := by
    have := qfa args
    rw [qcw, hargs] at h1
    omega
   rw [hargs]
   refine qo (S := Nat) (fun i => i ≤ args.length) (fun i => (⟨[(0, .sl 4 (qbo l)), (3, .ptr 0 0), (7, .int .i64 j), (9, .ptr 1 0), (47, .sl 3 (qi args)), (48, .int .i64 args.length), (49, .int .i64 i)], []⟩, [.blk [.str p.cls, .str p.ty.con, .int .i64 p.ty.var, .sl 3 (qi args)], subE (qbp (args.take i) 0 [])])) (fun i => args.length - i) ?_ fun i hi => ?_
   ·refine qh 0 [0, 1] (Nat.zero_le _) rfl (by simp) ?_ ?_ ?_ <;> (try refine ev_ ?_) <;> (try with_reducible exact ti_) <;> (try simp (disch := omega) only [qb, and_true, true_and])
    all_goals rfl
   ·obtain ⟨ho, hlen⟩ := qh6 (args.take i) 0 [] qg8
    rw [List.length_take, Nat.min_eq_left hi, List.length_nil, Nat.zero_add] at hlen
    by_cases hlt : i < args.length
    ·have hgy := qu hlt
     obtain ⟨q1, q2⟩ := hba _ (qx hlt)
     have hS := qiq ho.1 (by omega) (i : Int) q1 q2
     rw [← qkk hlt] at hS
     have hby : AV.bds 0 [.int .i64 i, encY (args.getD i Y0)] = true := by simp only [AV.bds, AV.bd, qbg, Bool.and_true]
     repeat' (first | refine vs_ ?_ | ((first | refine vr_ ?_ | fail) <;> (try simp (disch := first | omega | (simp only [List.length_set, List.length_append, List.length_cons, List.length_nil]; done) | (simp only [List.length_set, List.length_append, List.length_cons, List.length_nil]; omega)) only [hgy, qb, go_sem, ↓reduceIte])) | ((first | simp (disch := omega) only [hgy] | (refine cs_ ?_ ?_ <;> intro hc) | refine cj_ ?_ | simp (disch := omega) only [encs_getN, qb] | refine qd6 1 hS hby rfl ?_) <;> (try refine ev_ ?_)) | with_reducible exact ti_)
     all_goals try (exfalso; omega)
     ·refine qh (i + 1) [0, 1] ⟨by omega, by omega⟩ rfl (by simp) ?_ ?_ ?_ <;> (try refine ev_ ?_) <;> (try with_reducible exact ti_) <;> (try simp (disch := omega) only [qb, and_true, true_and])
      rw [qw (by omega) (by omega), Int.natCast_add]; rfl
    ·have hia : i = args.length := by omega
     subst hia
     rw [List.take_length] at ho hlen ⊢
     obtain ⟨r1, r2⟩ := hs _ (qgh hjl)
     have hP := qxc ho (by omega) r1 r2
     have hT : prdA (prdR (qbp args 0 []) [] (l.getD j I0).ps) = .tup [.sl 4 (qy (prdR (qbp args 0 []) [] (l.getD j I0).ps).1), .int .i64 (prdR (qbp args 0 []) [] (l.getD j I0).ps).2] := rfl
     rw [hT] at hP
     have hb1 : AV.bd 0 (.tup [.sl 4 (qy (prdR (qbp args 0 []) [] (l.getD j I0).ps).1), .int .i64 (prdR (qbp args 0 []) [] (l.getD j I0).ps).2]) = true := qy7 0 _
     have hb2 : AV.bds 0 [.sl 4 (qy (l.getD j I0).ps)] = true := by simp only [AV.bds, AV.bd, qcj, Bool.and_true]
     repeat' (first | refine vs_ ?_ | ((first | refine vr_ ?_ | fail) <;> (try simp only [hg, go_sem, ↓reduceIte])) | ((first | simp (disch := omega) only [hg] | (refine cs_ ?_ ?_ <;> intro hc) | refine cj_ ?_ | simp (disch := omega) only [encs_getN, qb] | refine qd6 1 hP hb2 hb1 ?_) <;> (try refine ev_ ?_)) | with_reducible exact ti_)
     all_goals try (exfalso; omega)
     all_goals rfl
end Go.Proofs.YtbbjelfnocmaoaaGreat
