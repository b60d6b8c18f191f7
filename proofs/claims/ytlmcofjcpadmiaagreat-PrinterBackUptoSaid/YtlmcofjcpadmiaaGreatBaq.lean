/- Texts of this proof, joined. -/
import Derived.Test.YtlmcofjcpadmiaaGreatBap
import Derived.Test.YtlmcofjcpadmiaaGreatBaj

/- trees: low, each, bare, named, plain -/
set_option maxRecDepth 4000
namespace Go.Proofs.YtlmcofjcpadmiaaGreat
open Go Go.RowKit Go.V
set_option linter.unusedVariables false
set_option linter.unusedSimpArgs false

theorem qge (l : List N) (i : Nat) : (encs l).take i = encs (l.take i) := by rw [qdk, qdk, List.map_take]
theorem qfk (l : List N) (i : Nat) : (encs l).drop i = encs (l.drop i) := by rw [qdk, qdk, List.map_drop]
attribute [go_sem] qge qfk
def qmi (n : N) : Bool := decide (n.text = []) && decide (n.num = 0)
theorem qgd (n : N) : ql Tryz.prog 67 [enc n] (.bool (qmi n)) := by
 refine qg c0bs (by simp) (by simp only [go_sem]) rfl fun hw => ?_
 repeat' (first | refine vs_ ?_ | ((first | refine vr_ ?_ | (refine cs_ ?_ ?_ <;> intro hc) | refine cj_ ?_ | fail) <;> (try refine ev_ ?_)) | with_reducible exact ti_)
 all_goals simp_all [qmi]
def qfw (n : N) (f : List UInt8 → Bool) : Bool := decide (n.num = 0) && f n.text
theorem qc1 {so : FuncId} {f : List UInt8 → Bool} (h : ∀ l, ql Tryz.prog so [.str l] (.bool (f l))) (n : N) : ql Tryz.prog 89 [enc n, .fn so [] []] (.bool (qfw n f)) := by
 refine qg c0bt (by simp) (by simp only [go_sem]) rfl fun hw => ?_
 repeat' (first | refine vs_ ?_ | ((first | refine vr_ ?_ | refine qa (h _) fun _ => ?_ | (refine cs_ ?_ ?_ <;> intro hc) | refine cj_ ?_ | fail) <;> (try refine ev_ ?_)) | with_reducible exact ti_)
 all_goals simp_all [qfw]
theorem qsn {l : List N} {f : N → Bool} {i : Nat} (h : i < l.length) : (l.drop i).all f = (f (l.getD i N0) && (l.drop (i + 1)).all f) := by
 rw [qvo h, List.all_cons]

theorem qbl {so : FuncId} {f : N → Bool} {l : List N} (h : ∀ x ∈ l, ql Tryz.prog so [enc x] (.bool (f x))) : ql Tryz.prog 68 [.sl 5 (encs l), .fn so [] []] (.bool (l.all f)) := by
 refine qg c0bu (by simp) (by simp only [go_sem]) rfl fun hw => ?_
 have hkl : l.length ≤ maxLen := by have := hw.1.1; rwa [qbs] at this
 repeat' (first | refine vs_ ?_ | ((first | refine vr_ ?_ | (refine cs_ ?_ ?_ <;> intro hc) | refine cj_ ?_ | simp (disch := omega) only [qb, qi]) <;> (try refine ev_ ?_)) | with_reducible exact ti_)
 refine qch (S := Nat) (fun i => i ≤ l.length ∧ (l.drop i).all f = l.all f) (fun i => (⟨[(1, .fn so [] []), (7, .sl 5 (encs l)), (8, .int .i64 l.length), (9, .int .i64 i)], []⟩, [])) (fun i => l.length - i) ?_ fun i hi => ?_
 ·refine qbj 0 [] ⟨Nat.zero_le _, rfl⟩ rfl (by simp) ?_ ?_ ?_ <;> (try refine ev_ ?_) <;> (try with_reducible exact ti_) <;> (try simp (disch := omega) only [qi, and_true, true_and])
 ·obtain ⟨hi, ha⟩ := hi
  repeat' (first | refine vs_ ?_ | ((first | refine vr_ ?_ | refine qa (h _ (qf (by omega))) fun _ => ?_ | (refine cs_ ?_ ?_ <;> intro hc) | refine cj_ ?_ | simp (disch := omega) only [qb, qi]) <;> (try refine ev_ ?_)) | with_reducible exact ti_)
  ·rw [← ha, qsn (by omega), hc]; rfl
  ·refine qbj (i + 1) [] ⟨⟨by omega, ?_⟩, by omega⟩ rfl (by simp) ?_ ?_ ?_ <;> (try refine ev_ ?_) <;> (try with_reducible exact ti_) <;> (try simp (disch := omega) only [qi, and_true, true_and])
   rw [← ha, qsn (l := l) (i := i) (by omega), hc, Bool.true_and]
  ·rw [← ha, List.drop_of_length_le (by omega)]; rfl

/-! low -/
def yLow (n : N) (fn : FuncId) (asn bd : Code) (ha : qcl Tryz.prog 10 asn = some q2l) (hb : qcl Tryz.prog 10 bd = some qzv) : Yld Bool where
 m := 5
 hs := fun b => [.blk (nc n), .blk [.bool false], .blk (nc n), .blk [.int .i64 1], .lp (if b then ⟨.done, some .ret, fn, [6, 7].toArray, asn, bd⟩ else ⟨.ready, none, fn, [6, 7].toArray, asn, bd⟩) (qic 10 [(5, .fn 140 [] [.ptr 2 0, .ptr 3 0]), (4, enc n), (2, .ptr 1 0), (1, .ptr 0 0), (0, enc n)])]
 i := 4
 step := fun k l _ => (decide (100 < l), !decide (100 < l))
 len := fun _ => rfl
 bd := fun k => by cases k <;> (refine ev_ ?_; (try with_reducible exact ti_))
 lt := by omega
 live := fun b => b = false
 keep := fun s l n _ h => by simpa using h
 app := fun k l x hk => by
  subst hk
  refine qom (k := 5) rfl rfl qml ha hb (by simp) (by simp) (by simp) fun lp => ?_
  repeat' (first | refine vs_ ?_ | ((first | refine vr_ ?_ | (refine cs_ ?_ ?_ <;> intro hc) | refine cj_ ?_ | simp (disch := omega) only [qb, qi]) <;> (try refine ev_ ?_)) | with_reducible exact ti_)

def lowF : Bool → Int → N → Bool × Bool := fun _ l _ => (decide (100 < l), !decide (100 < l))
def lowW (n : N) : Bool := (qc0 lowF n 1 false).2
theorem qbxb : ∀ n l s, (qc0 lowF n l s).1 = !(qc0 lowF n l s).2 := by
 refine N.ind fun n ih l s => ?_
 rw [qgu]
 split
 ·rename_i h
  have key : ∀ (r : List N), (∀ x ∈ r, ∀ l s, (qc0 lowF x l s).1 = !(qc0 lowF x l s).2) → ∀ (l : Int) (s : Bool), s = false → (qdi lowF l r s).1 = !(qdi lowF l r s).2 := by
   intro r
   induction r with
   | nil => intro _ l s hs; subst hs; rfl
   | cons x r ihr =>
     intro hx l s hs
     rw [qdi]
     split
     ·rename_i h3
      exact ihr (fun x hx' => hx x (by simp [hx'])) l _ (by rw [hx x (by simp), h3]; rfl)
     ·rename_i h3
      simp only [Bool.not_eq_true] at h3
      rw [hx x (by simp), h3]
  exact key _ ih _ _ (by simpa [lowF] using h)
 ·rename_i h
  simpa [lowF] using h

theorem qji (n : N) : ql Tryz.prog 47 [enc n] (.bool (lowW n)) := by
 refine qg c0bv (by simp) (by simp only [go_sem]) rfl fun hw => ?_
 repeat' (first | refine vs_ ?_ | ((first | refine vr_ ?_ | (refine cs_ ?_ ?_ <;> intro hc) | refine cj_ ?_ | fail) <;> (try refine ev_ ?_)) | with_reducible exact ti_)
 refine qqa (qb0t n 1) (by simp only [go_sem]) ?_
 rintro H1 o ⟨rfl, rfl⟩
 (refine ev_ ?_; (try with_reducible exact ti_))
 refine qpx (q10 rfl (Nat.zero_le _) fun fn asn bd ha hb => ?_)
 refine VCalls.mono (qb2u (yLow n fn asn bd ha hb) (n := n) (l := 1) (s := false) (p := 2) (q := 3) rfl rfl rfl) ?_
 rintro H1 o ⟨rfl, rfl⟩
 have hlow := qbxb n 1 false
 rw [show qc0 (yLow n fn asn bd ha hb).step n 1 false = qc0 lowF n 1 false from rfl, lowW]
 generalize qc0 lowF n 1 false = pq at hlow ⊢
 obtain ⟨p, q⟩ := pq
 simp only at hlow
 subst hlow
 cases q
 ·simp only [yLow, Bool.not_false, go_sem, ↓reduceIte]
 ·simp only [yLow, Bool.not_true, go_sem, ↓reduceIte]
  repeat' (first | refine vs_ ?_ | ((first | refine vr_ ?_ | (refine cs_ ?_ ?_ <;> intro hc) | refine cj_ ?_ | fail) <;> (try refine ev_ ?_)) | with_reducible exact ti_)
set_option maxRecDepth 4000

theorem qbxr {i : Nat} (h : i ≤ maxLen) : IntKind.i64.wrap ((i : Int) - 1) = (i : Int) - 1 := by
 unfold maxLen at h
 simp [IntKind.wrap, IntKind.signed, IntKind.bits]
 omega
mutual
def tyW : N → Bool
 | .mk k _ n t ks => if k = 1 then decide (n = 0) && varW t && decide ((ks.length : Int) = 0)
   else if k = 2 ∧ n = 0 then (if t = [45, 62] then decide ((ks.length : Int) = 2) else conW t) && tysW ks else false
def tysW : List N → Bool
 | [] => true
 | x :: r => tyW x && tysW r
end
theorem q9o (l : List N) : tysW l = l.all tyW := by
 induction l with
 | nil => rfl
 | cons x r ih => rw [tysW, ih]; rfl
theorem qs6 (n : N) : tyW n = if n.kind = 1 then decide (n.num = 0) && varW n.text && decide ((n.kids.length : Int) = 0)
 else if n.kind = 2 ∧ n.num = 0 then (if n.text = [45, 62] then decide ((n.kids.length : Int) = 2) else conW n.text) && n.kids.all tyW else false := by
 rw [← q9o]; cases n; rw [tyW]; rfl

theorem qda : ∀ n, ql Tryz.prog 48 [enc n] (.bool (tyW n)) := by
 refine N.ind fun n ih => ?_
 refine qg c0bn (by simp) (by simp only [go_sem]) rfl fun hw => ?_
 rw [qs6]
 repeat' (first | refine vs_ ?_ | ((first | refine vr_ ?_ | refine qa (qc1 qhx _) fun _ => ?_ | refine qa (qbl ih) fun _ => ?_ | refine qa (qef _) fun _ => ?_ | (refine cs_ ?_ ?_ <;> intro hc) | refine cj_ ?_ | fail) <;> (try refine ev_ ?_)) | with_reducible exact ti_)
 all_goals simp_all [qfw]

/-! patterns -/
mutual
def paW : N → Bool
 | .mk k _ n t ks => if k = 11 then decide (n = 0) && varW t && decide ((ks.length : Int) = 0)
   else if k = 12 then decide (t = []) && decide (n = 0) && decide ((ks.length : Int) = 0)
   else if k = 13 then decide (t = []) && decide (0 ≤ n) && decide ((ks.length : Int) = 0)
   else if k = 14 then decide (n = 0) && conW t && pasW ks else false
def pasW : List N → Bool
 | [] => true
 | x :: r => paW x && pasW r
end
theorem qbb4 (l : List N) : pasW l = l.all paW := by
 induction l with
 | nil => rfl
 | cons x r ih => rw [pasW, ih]; rfl
theorem qbcc (n : N) : paW n = if n.kind = 11 then decide (n.num = 0) && varW n.text && decide ((n.kids.length : Int) = 0)
 else if n.kind = 12 then decide (n.text = []) && decide (n.num = 0) && decide ((n.kids.length : Int) = 0)
 else if n.kind = 13 then decide (n.text = []) && decide (0 ≤ n.num) && decide ((n.kids.length : Int) = 0)
 else if n.kind = 14 then decide (n.num = 0) && conW n.text && n.kids.all paW else false := by
 rw [← qbb4]; cases n; rw [paW]; rfl
theorem qnj : ∀ n, ql Tryz.prog 51 [enc n] (.bool (paW n)) := by
 refine N.ind fun n ih => ?_
 refine qg c0bo (by simp) (by simp only [go_sem]) rfl fun hw => ?_
 rw [qbcc]
 repeat' (first | refine vs_ ?_ | ((first | refine vr_ ?_ | refine qa (qc1 qhx _) fun _ => ?_ | refine qa (qc1 qef _) fun _ => ?_ | refine qa (qbl ih) fun _ => ?_ | refine qa (qgd _) fun _ => ?_ | (refine cs_ ?_ ?_ <;> intro hc) | refine cj_ ?_ | fail) <;> (try refine ev_ ?_)) | with_reducible exact ti_)
 all_goals simp_all [qfw, qmi]
/-! predicates, contexts, signatures -/
def prW (n : N) : Bool := decide (n.kind = 3) && decide (n.num = 0) && conW n.text && decide ((n.kids.length : Int) = 1) && tyW (n.kids.getD 0 N0)
theorem qhh (n : N) : ql Tryz.prog 112 [enc n] (.bool (prW n)) := by
 refine qg c0bp (by simp) (by simp only [go_sem]) rfl fun hw => ?_
 repeat' (first | refine vs_ ?_ | ((first | refine vr_ ?_ | refine qa (qc1 qef _) fun _ => ?_ | refine qa (qda _) fun _ => ?_ | (refine cs_ ?_ ?_ <;> intro hc) | refine cj_ ?_ | simp (disch := omega) only [qb, qi]) <;> (try refine ev_ ?_)) | with_reducible exact ti_)
 all_goals simp_all [qfw, prW]
def quW (n : N) : Bool := decide (n.kind = 4) && qmi n && decide (0 ≤ (n.kids.length : Int) - 1) && (n.kids.take ((n.kids.length : Int) - 1).toNat).all prW && tyW (n.kids.getD ((n.kids.length : Int) - 1).toNat N0)
theorem qtb (n : N) : ql Tryz.prog 157 [enc n] (.bool (quW n)) := by
 refine qg c0bq (by simp) (by simp only [go_sem]) rfl fun hw => ?_
 have hkl : n.kids.length ≤ maxLen := ((qii n).1 hw.1).1
 repeat' (first | refine vs_ ?_ | ((first | refine vr_ ?_ | refine qa (qgd _) fun _ => ?_ | refine qa (qbl fun x _ => qhh x) fun _ => ?_ | refine qa (qda _) fun _ => ?_ | simp (disch := omega) only [qbxr] | (refine cs_ ?_ ?_ <;> intro hc) | refine cj_ ?_ | simp (disch := omega) only [qb, qi]) <;> (try refine ev_ ?_)) | with_reducible exact ti_)
 all_goals first | (simp only [quW, *, decide_true, decide_false, Bool.and_true, Bool.true_and, Bool.and_false, Bool.false_and, Bool.or_true, Bool.true_or, Bool.or_false, Bool.false_or, Bool.not_true, Bool.not_false, if_true, if_false, reduceIte, Int.reduceEq]; done) | (simp_all [quW]; done) | (simp_all [quW]; omega)
def sgW (n : N) : Bool := decide (n.kind = 32) && decide (n.num = 0) && varW n.text && decide ((n.kids.length : Int) = 1) && quW (n.kids.getD 0 N0)
theorem qfh (n : N) : ql Tryz.prog 101 [enc n] (.bool (sgW n)) := by
 refine qg c0br (by simp) (by simp only [go_sem]) rfl fun hw => ?_
 repeat' (first | refine vs_ ?_ | ((first | refine vr_ ?_ | refine qa (qc1 qhx _) fun _ => ?_ | refine qa (qtb _) fun _ => ?_ | (refine cs_ ?_ ?_ <;> intro hc) | refine cj_ ?_ | simp (disch := omega) only [qb, qi]) <;> (try refine ev_ ?_)) | with_reducible exact ti_)
 all_goals first | (simp only [qfw, sgW, *, decide_true, decide_false, Bool.and_true, Bool.true_and, Bool.and_false, Bool.false_and, Bool.or_true, Bool.true_or, Bool.or_false, Bool.false_or, Bool.not_true, Bool.not_false, if_true, if_false, reduceIte, Int.reduceEq]; done) | (simp_all [qfw, sgW]; done) | (simp_all [qfw, sgW]; omega)
set_option maxRecDepth 4000

abbrev T3 := Bool × Bool × Bool
def d3 : T3 × N := ((false, false, false), N0)
mutual
def eba : N → T3
 | .mk k _ n t ks =>
   let l := (ebas ks).zip ks
   (if k = 21 then decide (n = 0) && varW t && decide ((ks.length : Int) = 0)
    else if k = 22 then decide (n = 0) && conW t && decide ((ks.length : Int) = 0)
    else if k = 23 then decide (t = []) && decide (0 ≤ n) && decide ((ks.length : Int) = 0)
    else if k = 24 then decide (t = []) && decide (n = 0) && decide ((ks.length : Int) = 2) && l.all (·.1.1)
    else if k = 25 then decide (n = 0) && varW t && decide ((ks.length : Int) = 1) && (l.getD 0 d3).1.1
    else if k = 26 then decide (t = []) && decide (n = 0) && decide (2 ≤ (ks.length : Int)) && (l.take ((ks.length : Int) - 1).toNat).all (fun p => p.1.2.1 || sgW p.2) && (l.getD ((ks.length : Int) - 1).toNat d3).1.1
    else if k = 27 then decide (t = []) && decide (n = 0) && decide (2 ≤ (ks.length : Int)) && (l.getD 0 d3).1.1 && (l.drop 1).all (·.1.2.2)
    else if k = 28 then decide (t = []) && decide (n = 0) && decide ((ks.length : Int) = 3) && l.all (·.1.1)
    else false,
    decide (k = 31) && decide (n = 0) && varW t && decide ((ks.length : Int) = 1) && (l.getD 0 d3).1.1,
    decide (k = 15) && decide (t = []) && decide (n = 0) && decide ((ks.length : Int) = 2) && paW (l.getD 0 d3).2 && (l.getD 1 d3).1.1)
def ebas : List N → List T3
 | [] => []
 | x :: r => eba x :: ebas r
end
def exW (n : N) : Bool := (eba n).1
def biW (n : N) : Bool := (eba n).2.1
def alW (n : N) : Bool := (eba n).2.2
theorem qq9 (l : List N) : (ebas l).zip l = l.map fun x => (eba x, x) := by
 induction l with
 | nil => rfl
 | cons x r ih => rw [ebas, List.zip_cons_cons, ih]; rfl
theorem qh3 {l : List N} {i : Nat} (h : i < l.length) : (l.map fun x => (eba x, x)).getD i d3 = (eba (l.getD i N0), l.getD i N0) := by
 rw [List.getD_eq_getElem?_getD, List.getElem?_map, List.getElem?_eq_getElem h, List.getD_eq_getElem?_getD, List.getElem?_eq_getElem h]; rfl
theorem qw5 {c a b : Bool} (h : c = true → a = b) : (c && a) = (c && b) := by cases c <;> simp_all
theorem qbcb (n : N) : exW n = if n.kind = 21 then decide (n.num = 0) && varW n.text && decide ((n.kids.length : Int) = 0)
 else if n.kind = 22 then decide (n.num = 0) && conW n.text && decide ((n.kids.length : Int) = 0)
 else if n.kind = 23 then decide (n.text = []) && decide (0 ≤ n.num) && decide ((n.kids.length : Int) = 0)
 else if n.kind = 24 then decide (n.text = []) && decide (n.num = 0) && decide ((n.kids.length : Int) = 2) && n.kids.all exW
 else if n.kind = 25 then decide (n.num = 0) && varW n.text && decide ((n.kids.length : Int) = 1) && exW (n.kids.getD 0 N0)
 else if n.kind = 26 then decide (n.text = []) && decide (n.num = 0) && decide (2 ≤ (n.kids.length : Int)) && (n.kids.take ((n.kids.length : Int) - 1).toNat).all (fun x => biW x || sgW x) && exW (n.kids.getD ((n.kids.length : Int) - 1).toNat N0)
 else if n.kind = 27 then decide (n.text = []) && decide (n.num = 0) && decide (2 ≤ (n.kids.length : Int)) && exW (n.kids.getD 0 N0) && (n.kids.drop 1).all alW
 else if n.kind = 28 then decide (n.text = []) && decide (n.num = 0) && decide ((n.kids.length : Int) = 3) && n.kids.all exW
 else false := by
 obtain ⟨k, p, m, t, ks⟩ := n
 simp only [exW, eba, N.kind, N.num, N.text, N.kids, qq9, ← List.map_take, ← List.map_drop, List.all_map]
 have h0 : ∀ (c : Int), 1 ≤ c → decide ((ks.length : Int) = c) = true → ((ks.map fun x => (eba x, x)).getD 0 d3).1.1 = (eba (ks.getD 0 N0)).1 := fun c h1 h => by
  simp only [decide_eq_true_eq] at h
  rw [qh3 (by omega)]
 have h2 : decide (2 ≤ (ks.length : Int)) = true → ((ks.map fun x => (eba x, x)).getD 0 d3).1.1 = (eba (ks.getD 0 N0)).1 := fun h => by
  simp only [decide_eq_true_eq] at h
  rw [qh3 (by omega)]
 have h3 : decide (2 ≤ (ks.length : Int)) = true → ((ks.map fun x => (eba x, x)).getD ((ks.length : Int) - 1).toNat d3).1.1 = (eba (ks.getD ((ks.length : Int) - 1).toNat N0)).1 := fun h => by
  simp only [decide_eq_true_eq] at h
  rw [qh3 (by omega)]
 repeat' (refine ite_congr rfl (fun _ => ?_) (fun _ => ?_))
 all_goals first
  | rfl
  | (refine qw5 fun h => h0 1 (by omega) ?_; simp only [Bool.and_eq_true] at h; exact h.2)
  | (refine qw5 fun h => h3 ?_; simp only [Bool.and_eq_true] at h; exact h.1.2)
  | (refine congrArg (· && _) (qw5 fun h => h2 ?_); simp only [Bool.and_eq_true] at h; exact h.2)
theorem qbcq (n : N) : biW n = (decide (n.kind = 31) && decide (n.num = 0) && varW n.text && decide ((n.kids.length : Int) = 1) && exW (n.kids.getD 0 N0)) := by
 obtain ⟨k, p, m, t, ks⟩ := n
 simp only [biW, exW, eba, N.kind, N.num, N.text, N.kids, qq9]
 refine qw5 fun h => ?_
 simp only [Bool.and_eq_true, decide_eq_true_eq] at h
 rw [qh3 (by omega)]
theorem qbcw (n : N) : alW n = (decide (n.kind = 15) && decide (n.text = []) && decide (n.num = 0) && decide ((n.kids.length : Int) = 2) && paW (n.kids.getD 0 N0) && exW (n.kids.getD 1 N0)) := by
 obtain ⟨k, p, m, t, ks⟩ := n
 simp only [alW, exW, eba, N.kind, N.num, N.text, N.kids, qq9]
 by_cases h : (ks.length : Int) = 2
 ·rw [qh3 (by omega), qh3 (by omega)]; rfl
 ·simp [h]

theorem qqr {x : N} (h : ql Tryz.prog 100 [enc x] (.bool (biW x))) : ql Tryz.prog 99 [enc x] (.bool (biW x || sgW x)) := by
 refine qg c0bj (by simp) (by simp only [go_sem]) rfl fun hw => ?_
 repeat' (first | refine vs_ ?_ | ((first | refine vr_ ?_ | refine qa h fun _ => ?_ | refine qa (qfh x) fun _ => ?_ | (refine cs_ ?_ ?_ <;> intro hc) | refine cj_ ?_ | fail) <;> (try refine ev_ ?_)) | with_reducible exact ti_)
 all_goals first | (simp only [*, decide_true, decide_false, Bool.and_true, Bool.true_and, Bool.and_false, Bool.false_and, Bool.or_true, Bool.true_or, Bool.or_false, Bool.false_or, Bool.not_true, Bool.not_false, if_true, if_false, reduceIte, Int.reduceEq]; done) | (simp_all []; done) | (simp_all []; omega)

set_option maxHeartbeats 2000000 in
theorem qn6 {n : N} (ih : ∀ x ∈ n.kids, ql Tryz.prog 57 [enc x] (.bool (exW x))) (iha : ∀ x ∈ n.kids, ql Tryz.prog 102 [enc x] (.bool (alW x))) (ihw : ∀ x ∈ n.kids, ql Tryz.prog 99 [enc x] (.bool (biW x || sgW x))) :
 ql Tryz.prog 57 [enc n] (.bool (exW n)) := by
 refine qg c0bk (by simp) (by simp only [go_sem]) rfl fun hw => ?_
 have hkl : n.kids.length ≤ maxLen := ((qii n).1 hw.1).1
 repeat' (first | refine vs_ ?_ | ((first | refine vr_ ?_ | refine qa (qc1 qhx _) fun _ => ?_ | refine qa (qc1 qef _) fun _ => ?_ | refine qa (qgd _) fun _ => ?_ | refine qa (ih _ (qf (by omega))) fun _ => ?_ | refine qa (qbl ih) fun _ => ?_ | refine qa (qbl (f := alW) fun x hx => iha x (List.mem_of_mem_drop hx)) fun _ => ?_ | refine qa (qbl (f := fun x => biW x || sgW x) fun x hx => ihw x (List.mem_of_mem_take hx)) fun _ => ?_ | simp (disch := omega) only [qbxr] | (refine cs_ ?_ ?_ <;> intro hc) | refine cj_ ?_ | simp (disch := omega) only [qb, qi]) <;> (try refine ev_ ?_)) | with_reducible exact ti_)
 all_goals clear ih iha ihw hw hkl
 all_goals rw [qbcb n]
 all_goals (try simp only [qfw, qmi] at *)
 all_goals first | (simp only [*, decide_true, decide_false, Bool.and_true, Bool.true_and, Bool.and_false, Bool.false_and, Bool.or_true, Bool.true_or, Bool.or_false, Bool.false_or, Bool.not_true, Bool.not_false, if_true, if_false, reduceIte, Int.reduceEq]; done) | (simp_all []; done) | (simp_all []; omega)

theorem qgf : ∀ n, ql Tryz.prog 57 [enc n] (.bool (exW n)) ∧ ql Tryz.prog 100 [enc n] (.bool (biW n)) ∧ ql Tryz.prog 102 [enc n] (.bool (alW n)) := by
 refine N.ind fun n ih => ⟨qn6 (fun x hx => (ih x hx).1) (fun x hx => (ih x hx).2.2) (fun x hx => qqr (ih x hx).2.1), ?_, ?_⟩
 ·refine qg c0bl (by simp) (by simp only [go_sem]) rfl fun hw => ?_
  rw [qbcq n]
  repeat' (first | refine vs_ ?_ | ((first | refine vr_ ?_ | refine qa (qc1 qhx _) fun _ => ?_ | refine qa (ih _ (qf (by omega))).1 fun _ => ?_ | refine qe (ih _ (qf (by omega))).1 ?_ | (refine cs_ ?_ ?_ <;> intro hc) | refine cj_ ?_ | simp (disch := omega) only [qb, qi]) <;> (try refine ev_ ?_)) | with_reducible exact ti_)
  all_goals first | (simp only [qfw, *, decide_true, decide_false, Bool.and_true, Bool.true_and, Bool.and_false, Bool.false_and, Bool.or_true, Bool.true_or, Bool.or_false, Bool.false_or, Bool.not_true, Bool.not_false, if_true, if_false, reduceIte, Int.reduceEq]; done) | (simp_all [qfw]; done) | (simp_all [qfw]; omega)
 ·refine qg c0bm (by simp) (by simp only [go_sem]) rfl fun hw => ?_
  rw [qbcw n]
  repeat' (first | refine vs_ ?_ | ((first | refine vr_ ?_ | refine qa (qgd _) fun _ => ?_ | refine qa (qnj _) fun _ => ?_ | refine qa (ih _ (qf (by omega))).1 fun _ => ?_ | refine qe (ih _ (qf (by omega))).1 ?_ | (refine cs_ ?_ ?_ <;> intro hc) | refine cj_ ?_ | simp (disch := omega) only [qb, qi]) <;> (try refine ev_ ?_)) | with_reducible exact ti_)
  all_goals first | (simp only [qmi, *, decide_true, decide_false, Bool.and_true, Bool.true_and, Bool.and_false, Bool.false_and, Bool.or_true, Bool.true_or, Bool.or_false, Bool.false_or, Bool.not_true, Bool.not_false, if_true, if_false, reduceIte, Int.reduceEq]; done) | (simp_all [qmi]; done) | (simp_all [qmi]; omega)
set_option maxRecDepth 4000


set_option maxRecDepth 4000

def vaW (n : N) : Bool := decide (n.kind = 1) && tyW n
theorem qgw (n : N) : ql Tryz.prog 110 [enc n] (.bool (vaW n)) := by
 refine qg c0bc (by simp) (by simp only [go_sem]) rfl fun hw => ?_
 repeat' (first | refine vs_ ?_ | ((first | refine vr_ ?_ | refine qa (qda _) fun _ => ?_ | (refine cs_ ?_ ?_ <;> intro hc) | refine cj_ ?_ | fail) <;> (try refine ev_ ?_)) | with_reducible exact ti_)
 all_goals first | (simp only [vaW, *, decide_true, decide_false, Bool.and_true, Bool.true_and, Bool.and_false, Bool.false_and, Bool.or_true, Bool.true_or, Bool.or_false, Bool.false_or, Bool.not_true, Bool.not_false, if_true, if_false, reduceIte, Int.reduceEq]; done) | (simp_all [vaW]; done) | (simp_all [vaW]; omega)
def cnW (n : N) : Bool := decide (n.kind = 34) && qfw n conW && n.kids.all tyW
theorem qgp (n : N) : ql Tryz.prog 111 [enc n] (.bool (cnW n)) := by
 refine qg c0bd (by simp) (by simp only [go_sem]) rfl fun hw => ?_
 repeat' (first | refine vs_ ?_ | ((first | refine vr_ ?_ | refine qa (qc1 qef _) fun _ => ?_ | refine qa (qbl fun x _ => qda x) fun _ => ?_ | (refine cs_ ?_ ?_ <;> intro hc) | refine cj_ ?_ | fail) <;> (try refine ev_ ?_)) | with_reducible exact ti_)
 all_goals first | (simp only [cnW, *, decide_true, decide_false, Bool.and_true, Bool.true_and, Bool.and_false, Bool.false_and, Bool.or_true, Bool.true_or, Bool.or_false, Bool.false_or, Bool.not_true, Bool.not_false, if_true, if_false, reduceIte, Int.reduceEq]; done) | (simp_all [cnW]; done) | (simp_all [cnW]; omega)
def deW (n : N) : Bool :=
 if n.kind = 31 then biW n else if n.kind = 32 then sgW n
 else conW n.text && !decide (n.num < 0) && !decide ((n.kids.length : Int) ≤ n.num) &&
  (if n.kind = 33 then (n.kids.take n.num.toNat).all vaW && cnW (n.kids.getD n.num.toNat N0) && (n.kids.drop (n.num + 1).toNat).all cnW
   else if n.kind = 35 then (n.kids.take n.num.toNat).all prW && vaW (n.kids.getD n.num.toNat N0) && (n.kids.drop (n.num + 1).toNat).all sgW
   else if n.kind = 36 then (n.kids.take n.num.toNat).all prW && tyW (n.kids.getD n.num.toNat N0) && (n.kids.drop (n.num + 1).toNat).all biW
   else false)
theorem qkn (n : N) : ql Tryz.prog 69 [enc n] (.bool (deW n)) := by
 refine qg c0be (by simp) (by simp only [go_sem]) rfl fun hw => ?_
 have hkl : n.kids.length ≤ maxLen := ((qii n).1 hw.1).1
 repeat' (first | refine vs_ ?_ | ((first | refine vr_ ?_ | fail) <;> (try simp (disch := first | omega | (simp only [List.length_set, List.length_append, List.length_cons, List.length_nil]; done) | (simp only [List.length_set, List.length_append, List.length_cons, List.length_nil]; omega)) only [qb, qf5, go_sem, ↓reduceIte])) | ((first | (refine cs_ ?_ ?_ <;> intro hc) | refine cj_ ?_ | simp (disch := omega) only [qb, qi] | refine qa (qgf n).2.1 fun _ => ?_ | refine qa (qfh n) fun _ => ?_ | refine qa (qef _) fun _ => ?_ | refine qa (qbl fun x _ => qgw x) fun _ => ?_ | refine qa (qbl fun x _ => qhh x) fun _ => ?_ | refine qa (qbl fun x _ => qgp x) fun _ => ?_ | refine qa (qbl fun x _ => qfh x) fun _ => ?_ | refine qa (qbl (f := biW) fun x _ => (qgf x).2.1) fun _ => ?_ | refine qa (qgp _) fun _ => ?_ | refine qa (qgw _) fun _ => ?_ | refine qa (qda _) fun _ => ?_ | refine qe (qgf n).2.1 ?_ | refine qe (qfh n) ?_ | refine qe (qef _) ?_ | refine qe (qbl fun x _ => qgw x) ?_ | refine qe (qbl fun x _ => qhh x) ?_ | refine qe (qbl fun x _ => qgp x) ?_ | refine qe (qbl fun x _ => qfh x) ?_ | refine qe (qbl (f := biW) fun x _ => (qgf x).2.1) ?_ | refine qe (qgp _) ?_ | refine qe (qgw _) ?_ | refine qe (qda _) ?_) <;> (try refine ev_ ?_)) | with_reducible exact ti_)
 all_goals clear hw hkl
 all_goals simp only [deW]
 all_goals first | (simp only [*, decide_true, decide_false, Bool.and_true, Bool.true_and, Bool.and_false, Bool.false_and, Bool.or_true, Bool.true_or, Bool.or_false, Bool.false_or, Bool.not_true, Bool.not_false, if_true, if_false, reduceIte, Int.reduceEq]; done) | (simp_all []; done) | (simp_all []; omega)

theorem qon (n : N) : ql Tryz.prog 21 [enc n] (.bool (lowW n && tyW n)) := by
 refine qg c0bf (by simp) (by simp only [go_sem]) rfl fun hw => ?_
 repeat' (first | refine vs_ ?_ | ((first | refine vr_ ?_ | refine qa (qji _) fun _ => ?_ | refine qa (qda _) fun _ => ?_ | (refine cs_ ?_ ?_ <;> intro hc) | refine cj_ ?_ | fail) <;> (try refine ev_ ?_)) | with_reducible exact ti_)
 all_goals first | (simp only [*, decide_true, decide_false, Bool.and_true, Bool.true_and, Bool.and_false, Bool.false_and, Bool.or_true, Bool.true_or, Bool.or_false, Bool.false_or, Bool.not_true, Bool.not_false, if_true, if_false, reduceIte, Int.reduceEq]; done) | (simp_all []; done) | (simp_all []; omega)
theorem qrj (n : N) : ql Tryz.prog 24 [enc n] (.bool (lowW n && paW n)) := by
 refine qg c0bg (by simp) (by simp only [go_sem]) rfl fun hw => ?_
 repeat' (first | refine vs_ ?_ | ((first | refine vr_ ?_ | refine qa (qji _) fun _ => ?_ | refine qa (qnj _) fun _ => ?_ | (refine cs_ ?_ ?_ <;> intro hc) | refine cj_ ?_ | fail) <;> (try refine ev_ ?_)) | with_reducible exact ti_)
 all_goals first | (simp only [*, decide_true, decide_false, Bool.and_true, Bool.true_and, Bool.and_false, Bool.false_and, Bool.or_true, Bool.true_or, Bool.or_false, Bool.false_or, Bool.not_true, Bool.not_false, if_true, if_false, reduceIte, Int.reduceEq]; done) | (simp_all []; done) | (simp_all []; omega)
theorem qry (n : N) : ql Tryz.prog 26 [enc n] (.bool (lowW n && exW n)) := by
 refine qg c0bh (by simp) (by simp only [go_sem]) rfl fun hw => ?_
 repeat' (first | refine vs_ ?_ | ((first | refine vr_ ?_ | refine qa (qji _) fun _ => ?_ | refine qa (qgf _).1 fun _ => ?_ | refine qe (qgf _).1 ?_ | (refine cs_ ?_ ?_ <;> intro hc) | refine cj_ ?_ | fail) <;> (try refine ev_ ?_)) | with_reducible exact ti_)
 all_goals first | (simp only [*, decide_true, decide_false, Bool.and_true, Bool.true_and, Bool.and_false, Bool.false_and, Bool.or_true, Bool.true_or, Bool.or_false, Bool.false_or, Bool.not_true, Bool.not_false, if_true, if_false, reduceIte, Int.reduceEq]; done) | (simp_all []; done) | (simp_all []; omega)
def qhk (n : N) : Bool := if n.kind = 37 then lowW n && qmi n && n.kids.all deW else lowW n && deW n
theorem qkf (n : N) : ql Tryz.prog 30 [enc n] (.bool (qhk n)) := by
 refine qg c0bi (by simp) (by simp only [go_sem]) rfl fun hw => ?_
 repeat' (first | refine vs_ ?_ | ((first | refine vr_ ?_ | refine qa (qji _) fun _ => ?_ | refine qa (qgd _) fun _ => ?_ | refine qa (qkn _) fun _ => ?_ | refine qa (qbl fun x _ => qkn x) fun _ => ?_ | (refine cs_ ?_ ?_ <;> intro hc) | refine cj_ ?_ | fail) <;> (try refine ev_ ?_)) | with_reducible exact ti_)
 all_goals first | (simp only [qhk, *, decide_true, decide_false, Bool.and_true, Bool.true_and, Bool.and_false, Bool.false_and, Bool.or_true, Bool.true_or, Bool.or_false, Bool.false_or, Bool.not_true, Bool.not_false, if_true, if_false, reduceIte, Int.reduceEq]; done) | (simp_all [qhk]; done) | (simp_all [qhk]; omega)

mutual
def sz : N → Nat
 | .mk _ _ _ _ ks => szs ks + 1
def szs : List N → Nat
 | [] => 0
 | x :: r => sz x + szs r
end
mutual
def dp : N → Nat
 | .mk _ _ _ _ ks => dps ks + 1
def dps : List N → Nat
 | [] => 0
 | x :: r => max (dp x) (dps r)
end
theorem qes (n : N) : sz n = szs n.kids + 1 := by cases n; rw [sz]; rfl
theorem qlv (n : N) : dp n = dps n.kids + 1 := by cases n; rw [dp]; rfl
theorem qbca (n : N) : 1 ≤ sz n := by rw [qes]; omega
theorem qzu : ∀ l : List N, l.length ≤ szs l
 | [] => Nat.le_refl _
 | x :: r => by have := qzu r; have := qbca x; simp only [szs, List.length_cons]; omega
theorem qt8 : ∀ {l : List N} {x : N}, x ∈ l → sz x ≤ szs l
 | y :: r, x, h => by
   simp only [szs]
   rcases List.mem_cons.1 h with rfl | h
   ·omega
   ·have := qt8 h; omega
theorem qvt : ∀ {l : List N}, (∀ x ∈ l, dp x ≤ sz x) → dps l ≤ szs l
 | [], _ => Nat.le_refl _
 | x :: r, h => by
   have h1 := h x (by simp)
   have h2 := qvt (l := r) fun y hy => h y (by simp [hy])
   simp only [dps, szs]; omega
theorem qb37 : ∀ n, dp n ≤ sz n := N.ind fun n ih => by rw [qlv, qes]; have := qvt ih; omega

theorem qjj {z : Int} (h0 : -1 ≤ z) (h1 : z ≤ 1000000000) : IntKind.i64.wrap z = z := by
 simp [IntKind.wrap, IntKind.signed, IntKind.bits]
 omega

theorem qbb2 : ∀ n k, 0 ≤ k → k ≤ 1000000 → -1 ≤ cntW n k ∧ cntW n k ≤ k ∧ (0 ≤ cntW n k → cntW n k = k - sz n) := by
 refine N.ind fun n ih k h0 h1 => ?_
 rw [qzy, qjj (by omega) (by omega), qes]
 have key : ∀ (l : List N), (∀ x ∈ l, ∀ k, 0 ≤ k → k ≤ 1000000 → -1 ≤ cntW x k ∧ cntW x k ≤ k ∧ (0 ≤ cntW x k → cntW x k = k - sz x)) → ∀ a : Int, -1 ≤ a → a ≤ 1000000 → -1 ≤ qj2 a l ∧ qj2 a l ≤ a ∧ (0 ≤ qj2 a l → qj2 a l = a - szs l) := by
  intro l
  induction l with
  | nil => intro _ a h0 h1; simp only [qj2, szs]; omega
  | cons x r ihr =>
    intro hx a h0 h1
    simp only [qj2, szs]
    split
    ·obtain ⟨q1, q2, q3⟩ := hx x (by simp) a (by omega) (by omega)
     obtain ⟨r1, r2, r3⟩ := ihr (fun y hy => hx y (by simp [hy])) (cntW x a) (by omega) (by omega)
     refine ⟨by omega, by omega, fun h => ?_⟩
     have := r3 h
     have := q3 (by omega)
     omega
    ·exact ⟨by omega, by omega, fun h => by omega⟩
 obtain ⟨q1, q2, q3⟩ := key n.kids ih (k - 1) (by omega) (by omega)
 exact ⟨by omega, by omega, fun h => by have := q3 h; omega⟩
theorem qb2s {n : N} (h : fewW n = true) : sz n ≤ 3000 := by
 simp only [fewW, decide_eq_true_eq] at h
 obtain ⟨_, q2, q3⟩ := qbb2 n 3000 (by omega) (by omega)
 have := q3 h
 omega
theorem q6f : ∀ n, sz n ≤ 1000000 → qun n = sz n := N.ind fun n ih h => by
 rw [q7g, qes]
 rw [qes] at h
 have key : ∀ (l : List N), (∀ x ∈ l, sz x ≤ 1000000 → qun x = sz x) → ∀ a : Int, 1 ≤ a → a + szs l ≤ 1000001 → qoh a l = a + szs l := by
  intro l
  induction l with
  | nil => intro _ a h0 h1; simp [qoh, szs]
  | cons x r ihr =>
    intro hx a h0 h1
    simp only [qoh, szs] at h1 ⊢
    rw [hx x (by simp) (by omega), qjj (by omega) (by omega), ihr (fun y hy => hx y (by simp [hy])) _ (by omega) (by omega)]
    omega
 rw [key n.kids ih 1 (by omega) (by omega)]
 omega
def szF : Int → Int → N → Int × Bool := fun k _ _ => (IntKind.i64.wrap (k + 1), true)
theorem qbjm : ∀ n l (s : Int), 0 ≤ s → s + sz n ≤ 2000000 → qc0 szF n l s = (s + sz n, true) := N.ind fun n ih l s h0 h1 => by
 rw [qgu, qes]
 rw [qes] at h1
 simp only [szF, if_true]
 have key : ∀ (r : List N), (∀ x ∈ r, ∀ l (s : Int), 0 ≤ s → s + sz x ≤ 2000000 → qc0 szF x l s = (s + sz x, true)) → ∀ l (s : Int), 0 ≤ s → s + szs r ≤ 2000000 → qdi szF l r s = (s + szs r, true) := by
  intro r
  induction r with
  | nil => intro _ l s _ _; simp [qdi, szs]
  | cons x r ihr =>
    intro hx l s h0 h1
    simp only [qdi, szs] at h1 ⊢
    rw [hx x (by simp) _ _ h0 (by omega), if_pos rfl, ihr (fun y hy => hx y (by simp [hy])) _ _ (by omega) (by omega)]
    simp only [Prod.mk.injEq, and_true]; omega
 have := key n.kids ih (IntKind.i64.wrap (l + 1)) (IntKind.i64.wrap (s + 1)) (by rw [qjj (by omega) (by omega)]; omega) (by rw [qjj (by omega) (by omega)]; omega)
 rw [this, qjj (by omega) (by omega)]
 simp only [Prod.mk.injEq, and_true]; omega
theorem qb3y {n : N} (h : sz n ≤ 3000) : (qc0 (fun (k : Int) _ _ => (IntKind.i64.wrap (k + 1), true)) n 1 0).1 = qun n := by
 show (qc0 szF n 1 0).1 = qun n
 rw [qbjm n 1 0 (by omega) (by omega), q6f n (by omega)]; simp

theorem ql5 : ∀ n, sz n ≤ 1000000 → depR n = dp n := N.ind fun n ih h => by
 rw [qbwa, qlv]
 rw [qes] at h
 have key : ∀ (l : List N), (∀ x ∈ l, sz x ≤ 1000000 → depR x = dp x) → szs l ≤ 1000000 → ∀ a : Int, 0 ≤ a → qx7 a l = max a (dps l) := by
  intro l
  induction l with
  | nil => intro _ _ a h0; simp [qx7, dps]; omega
  | cons x r ihr =>
    intro hx hs a h0
    simp only [szs] at hs
    simp only [qx7, dps]
    rw [hx x (by simp) (by omega)]
    have := ihr (fun y hy => hx y (by simp [hy])) (by omega)
    split
    ·rw [this _ (by omega)]; omega
    ·rw [this _ (by omega)]; omega
 have hd := qvt (l := n.kids) fun x _ => qb37 x
 rw [key n.kids ih (by omega) 0 (by omega), qjj (by omega) (by omega)]
 omega
def dpF : Int → Int → N → Int × Bool := fun k l _ => (if l > k then l else k, true)
theorem qzr : ∀ n (l s : Int), 0 ≤ l → l + sz n ≤ 2000000 → qc0 dpF n l s = (max s (l + dp n - 1), true) := N.ind fun n ih l s h0 h1 => by
 rw [qgu, qlv]
 rw [qes] at h1
 simp only [dpF, if_true]
 have key : ∀ (r : List N), (∀ x ∈ r, ∀ (l s : Int), 0 ≤ l → l + sz x ≤ 2000000 → qc0 dpF x l s = (max s (l + dp x - 1), true)) → ∀ (l s : Int), 0 ≤ l → l + szs r ≤ 2000000 → l - 1 ≤ s → qdi dpF l r s = (max s (l + dps r - 1), true) := by
  intro r
  induction r with
  | nil => intro _ l s _ _ h; simp only [qdi, dps, Prod.mk.injEq, and_true]; omega
  | cons x r ihr =>
    intro hx l s h0 h1 h2
    simp only [szs] at h1
    simp only [qdi, dps]
    rw [hx x (by simp) _ _ h0 (by omega), if_pos rfl, ihr (fun y hy => hx y (by simp [hy])) _ _ (by omega) (by omega) (by omega)]
    simp only [Prod.mk.injEq, and_true]; omega
 have := key n.kids ih (IntKind.i64.wrap (l + 1)) (if l > s then l else s) (by rw [qjj (by omega) (by omega)]; omega) (by rw [qjj (by omega) (by omega)]; omega) (by rw [qjj (by omega) (by omega)]; split <;> omega)
 rw [this, qjj (by omega) (by omega)]
 simp only [Prod.mk.injEq, and_true]
 split <;> omega
theorem qb1c {n : N} (h : sz n ≤ 3000) : (qc0 (fun (k : Int) l _ => (if l > k then l else k, true)) n 1 0).1 = depR n := by
 show (qc0 dpF n 1 0).1 = depR n
 rw [qzr n 1 0 (by omega) (by omega), ql5 n (by omega)]
 have := qlv n
 simp only; omega
theorem qba5 : ∀ n (l : Int) (s : Bool), 0 ≤ l → l + sz n ≤ 2000000 → (qc0 lowF n l s).2 = decide (l + dp n - 1 ≤ 100) := N.ind fun n ih l s h0 h1 => by
 rw [qgu, qlv]
 rw [qes] at h1
 have key : ∀ (r : List N), (∀ x ∈ r, ∀ (l : Int) (s : Bool), 0 ≤ l → l + sz x ≤ 2000000 → (qc0 lowF x l s).2 = decide (l + dp x - 1 ≤ 100)) → ∀ (l : Int) (s : Bool), 0 ≤ l → l + szs r ≤ 2000000 → l - 1 ≤ 100 → (qdi lowF l r s).2 = decide (l + dps r - 1 ≤ 100) := by
  intro r
  induction r with
  | nil => intro _ l s _ _ h; simp only [qdi, dps]; symm; simp; omega
  | cons x r ihr =>
    intro hx l s h0 h1 h2
    simp only [szs] at h1
    simp only [qdi, dps]
    rw [hx x (by simp) _ _ h0 (by omega)]
    split
    ·rename_i h3
     simp only [decide_eq_true_eq] at h3
     rw [ihr (fun y hy => hx y (by simp [hy])) _ _ (by omega) (by omega) (by omega)]
     congr 1; simp only [eq_iff_iff]; omega
    ·rename_i h3
     simp only [decide_eq_true_eq] at h3
     exact (decide_eq_false (by omega)).symm
 by_cases h2 : (100 : Int) < l
 ·simp only [lowF, h2, decide_true, Bool.not_true, Bool.false_eq_true, if_false]
  exact (decide_eq_false (by omega)).symm
 ·simp only [lowF, h2, decide_false, Bool.not_false, if_true]
  rw [key n.kids ih _ _ (by rw [qjj (by omega) (by omega)]; omega) (by rw [qjj (by omega) (by omega)]; omega) (by rw [qjj (by omega) (by omega)]; omega), qjj (by omega) (by omega)]
  congr 1; simp only [eq_iff_iff]; omega
theorem qblz {n : N} (h : sz n ≤ 3000) : lowW n = decide (depR n ≤ 100) := by
 rw [lowW, qba5 n 1 false (by omega) (by omega), ql5 n (by omega)]
 congr 1; simp only [eq_iff_iff]; omega
set_option maxRecDepth 4000

theorem q4z : IntKind.i64.wrap (0 + 1) = 1 := by decide
def digW (l : List UInt8) : Bool := l.all fun c => qb1 c.toNat
theorem qs9 {l : List UInt8} {i : Nat} (h : i < l.length) : digW (l.drop i) = (qb1 (l.getD i 0).toNat && digW (l.drop (i + 1))) := by
 rw [qi0 h]; rfl

def digV (c : UInt8) : Int := IntKind.i64.wrap (IntKind.u8.wrap ((c.toNat : Int) - 48))
def topV (c : UInt8) : Int := IntKind.i64.wrap ((IntKind.i64.wrap (9223372036854775807 - digV c)).tdiv 10)
def nxtV (k : Int) (c : UInt8) : Int := IntKind.i64.wrap (IntKind.i64.wrap (10 * k) + digV c)
def qfn : Int → List UInt8 → Int × Int
 | k, [] => (k, 0)
 | k, c :: r => if topV c < k then (0, 4) else qfn (nxtV k c) r
def qn5 (l : List UInt8) : Int × Int := if l = [] then (0, 5) else if digW l = true then qfn 0 l else (0, 5)
def qbx4 (p : Int × Int) : AV := .tup [.int .i64 p.1, .int .i64 p.2]
theorem qoe {l : List UInt8} {i : Nat} (h : i < l.length) (k : Int) : qfn k (l.drop i) = if topV (l.getD i 0) < k then (0, 4) else qfn (nxtV k (l.getD i 0)) (l.drop (i + 1)) := by
 rw [qi0 h]; rfl
theorem qb1z {c : Int} (h : c < 48 ∨ 57 < c) : qb1 c = false := by
 simp only [qb1, Bool.and_eq_false_iff, decide_eq_false_iff_not]; omega
theorem qbrl {c : Int} (h : ¬ c < 48) (h2 : ¬ 57 < c) : qb1 c = true := by
 simp only [qb1, Bool.and_eq_true, decide_eq_true_eq]; omega
theorem qi9 {l : List UInt8} (h : l ≠ []) (hd : digW l = true) : qn5 l = qfn 0 l := by rw [qn5, if_neg h, if_pos hd]
theorem q2k {l : List UInt8} (hd : digW l = false) : qn5 l = (0, 5) := by rw [qn5, hd]; simp

theorem q4f (l : List UInt8) : ql Tryz.prog 189 [.str l] (qbx4 (qn5 l)) := by
 refine qg c0cm (by simp) (by simp only [go_sem]) rfl fun hw => ?_
 have hl : l.length ≤ maxLen := hw.1
 refine qoi (qoy ?_)
 (refine ev_ ?_; (try with_reducible exact ti_))
 refine q30 (S := Nat × Int) 0 rfl (fun s => s.1 < l.length ∧ digW l = true ∧ qfn s.2 (l.drop s.1) = qfn 0 l) (fun s => (⟨[(0, .str l), (5, .int .i64 s.2), (6, .int .i64 s.1)], []⟩, [])) (fun s => l.length - s.1) ?_ fun s hs => ?_
 ·repeat' (first | refine vs_ ?_ | ((first | refine vr_ ?_ | (refine cs_ ?_ ?_ <;> intro hc) | refine cj_ ?_ | simp (disch := omega) only [qb, qi]) <;> (try refine ev_ ?_)) | with_reducible exact ti_)
  refine qch (S := Nat) (fun i => i ≤ l.length ∧ digW (l.drop i) = digW l) (fun i => (⟨[(0, .str l), (9, .int .i64 l.length), (10, .int .i64 i)], []⟩, [])) (fun i => l.length - i) ?_ fun i hi => ?_
  ·refine qbj 0 [] ⟨Nat.zero_le _, rfl⟩ rfl (by simp) ?_ ?_ ?_ <;> (try refine ev_ ?_) <;> (try with_reducible exact ti_) <;> (try simp (disch := omega) only [qi, and_true, true_and])
  ·obtain ⟨hi, ha⟩ := hi
   have hs : i < l.length → qb1 (l.getD i 0).toNat = false → qn5 l = (0, 5) := fun h h2 => q2k (by rw [← ha, qs9 h, h2]; rfl)
   have hs2 : 0 < l.length → qfn 0 l = if topV (l.getD 0 0) < 0 then (0, 4) else qfn (nxtV 0 (l.getD 0 0)) (l.drop 1) := fun h => by
    have := qoe (l := l) (i := 0) h 0
    rwa [List.drop_zero] at this
   have hdig : ¬ (i : Int) < l.length → digW l = true := fun h => by rw [← ha, List.drop_of_length_le (by omega)]; rfl
   repeat' (first | refine vs_ ?_ | ((first | refine vr_ ?_ | simp (disch := omega) only [qi] | simp (disch := omega) only [q4z] | (refine cs_ ?_ ?_ <;> intro hc) | refine cj_ ?_ | simp (disch := omega) only [qb, qi]) <;> (try refine ev_ ?_)) | with_reducible exact ti_)
   all_goals first
    | (rw [hs (by omega) (qb1z (by omega))]; rfl)
    | (refine qbj (i + 1) [] ⟨⟨by omega, ?_⟩, by omega⟩ rfl (by simp) ?_ ?_ ?_ <;> (try refine ev_ ?_) <;> (try with_reducible exact ti_) <;> (try simp (disch := omega) only [qi, and_true, true_and])
       have hd : qb1 (l.getD i 0).toNat = true := qbrl (by omega) (by omega)
       rw [← ha, qs9 (l := l) (i := i) (by omega), hd, Bool.true_and])
    | (subst hc; rfl)
    | skip
   ·have hlp := qmj (by assumption)
    have hd := hdig (by assumption)
    have hc' : topV (l.getD 0 0) < 0 := hc
    rw [qi9 (by assumption) hd, hs2 hlp, if_pos hc']; rfl
   ·rename_i hc0
    have hlp := qmj (by assumption)
    have hd := hdig (by assumption)
    have hc' : ¬ topV (l.getD 0 0) < 0 := hc0
    refine qbj (1, nxtV 0 (l.getD 0 0)) [] ⟨by omega, hd, ?_⟩ rfl (by simp) ?_ ?_ ?_ <;> (try refine ev_ ?_) <;> (try with_reducible exact ti_) <;> (try simp (disch := omega) only [qi, and_true, true_and])
    ·rw [hs2 hlp, if_neg hc']
    ·rfl
   ·rename_i hc0
    have hlp := qmj (by assumption)
    have hd := hdig (by assumption)
    have hc' : ¬ topV (l.getD 0 0) < 0 := hc0
    rw [qi9 (by assumption) hd, hs2 hlp, if_neg hc', List.drop_of_length_le (by omega)]; rfl
 ·obtain ⟨j, k⟩ := s
  obtain ⟨hj, hd, hr⟩ := hs
  dsimp only at hj hr
  have hs2 : qfn 0 l = if topV (l.getD j 0) < k then (0, 4) else qfn (nxtV k (l.getD j 0)) (l.drop (j + 1)) := by rw [← hr, qoe hj]
  have hne : l ≠ [] := fun e => by subst e; simp at hj
  rw [qi9 hne hd]
  repeat' (first | refine vs_ ?_ | ((first | refine vr_ ?_ | simp (disch := omega) only [qi] | simp (disch := omega) only [q4z] | (refine cs_ ?_ ?_ <;> intro hc) | refine cj_ ?_ | simp (disch := omega) only [qb, qi]) <;> (try refine ev_ ?_)) | with_reducible exact ti_)
  ·have hc' : topV (l.getD j 0) < k := hc
   rw [hs2, if_pos hc']; rfl
  ·rename_i hc0
   have hc' : ¬ topV (l.getD j 0) < k := hc0
   refine qbj (j + 1, nxtV k (l.getD j 0)) [] ⟨⟨by omega, hd, ?_⟩, by omega⟩ rfl (by simp) ?_ ?_ ?_ <;> (try refine ev_ ?_) <;> (try with_reducible exact ti_) <;> (try simp (disch := omega) only [qi, and_true, true_and])
   ·rw [hs2, if_neg hc']
   ·rfl
  ·rename_i hc0
   have hc' : ¬ topV (l.getD j 0) < k := hc0
   rw [hs2, if_neg hc', List.drop_of_length_le (by omega)]; rfl
end Go.Proofs.YtlmcofjcpadmiaaGreat
