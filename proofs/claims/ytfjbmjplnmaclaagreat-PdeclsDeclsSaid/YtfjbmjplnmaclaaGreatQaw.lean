/- Texts of this proof, joined. -/
import Derived.Test.YtfjbmjplnmaclaaGreatQav
import Derived.Test.YtfjbmjplnmaclaaGreatQan

/- trees: low, each, bare, named, plain -/
set_option maxRecDepth 4000
namespace Go.Proofs.YtfjbmjplnmaclaaGreat
open Go Go.RowKit Go.V
set_option linter.unusedVariables false
set_option linter.unusedSimpArgs false

theorem qbau (l : List N) (i : Nat) : (encs l).take i = encs (l.take i) := by rw [qer, qer, List.map_take]
theorem qbbu (l : List N) (i : Nat) : (encs l).drop i = encs (l.drop i) := by rw [qer, qer, List.map_drop]
attribute [go_sem] qbau qbbu
def qsh (n : N) : Bool := decide (n.text = []) && decide (n.num = 0)
theorem qi7 (n : N) : qz Tryz.prog 26 [enc n] (.bool (qsh n)) := by
 refine qj c0ew (by simp) (by simp only [go_sem]) rfl fun hw => ?_
 repeat' (first | refine vs_ ?_ | ((first | refine vr_ ?_ | (refine cs_ ?_ ?_ <;> intro hc) | refine cj_ ?_ | fail) <;> (try refine ev_ ?_)) | with_reducible exact ti_)
 all_goals simp_all [qsh]
def qij (n : N) (f : List UInt8 → Bool) : Bool := decide (n.num = 0) && f n.text
theorem qec {so : FuncId} {f : List UInt8 → Bool} (h : ∀ l, qz Tryz.prog so [.str l] (.bool (f l))) (n : N) : qz Tryz.prog 93 [enc n, .fn so [] []] (.bool (qij n f)) := by
 refine qj c0ex (by simp) (by simp only [go_sem]) rfl fun hw => ?_
 repeat' (first | refine vs_ ?_ | ((first | refine vr_ ?_ | refine qa (h _) fun _ => ?_ | (refine cs_ ?_ ?_ <;> intro hc) | refine cj_ ?_ | fail) <;> (try refine ev_ ?_)) | with_reducible exact ti_)
 all_goals simp_all [qij]
theorem qzg {l : List N} {f : N → Bool} {i : Nat} (h : i < l.length) : (l.drop i).all f = (f (l.getD i N0) && (l.drop (i + 1)).all f) := by
 rw [q6s h, List.all_cons]

theorem qci {so : FuncId} {f : N → Bool} {l : List N} (h : ∀ x ∈ l, qz Tryz.prog so [enc x] (.bool (f x))) : qz Tryz.prog 27 [.sl 5 (encs l), .fn so [] []] (.bool (l.all f)) := by
 refine qj c0ey (by simp) (by simp only [go_sem]) rfl fun hw => ?_
 have hkl : l.length ≤ maxLen := by have := hw.1.1; rwa [qx] at this
 repeat' (first | refine vs_ ?_ | ((first | refine vr_ ?_ | (refine cs_ ?_ ?_ <;> intro hc) | refine cj_ ?_ | simp (disch := omega) only [qh, qs]) <;> (try refine ev_ ?_)) | with_reducible exact ti_)
 refine qbm (S := Nat) (fun i => i ≤ l.length ∧ (l.drop i).all f = l.all f) (fun i => (⟨[(1, .fn so [] []), (7, .sl 5 (encs l)), (8, .int .i64 l.length), (9, .int .i64 i)], []⟩, [])) (fun i => l.length - i) ?_ fun i hi => ?_
 ·refine q8 0 [] ⟨Nat.zero_le _, rfl⟩ rfl (by simp) ?_ ?_ ?_ <;> (try refine ev_ ?_) <;> (try with_reducible exact ti_) <;> (try simp (disch := omega) only [qs, and_true, true_and])
 ·obtain ⟨hi, ha⟩ := hi
  repeat' (first | refine vs_ ?_ | ((first | refine vr_ ?_ | refine qa (h _ (qgy (by omega))) fun _ => ?_ | (refine cs_ ?_ ?_ <;> intro hc) | refine cj_ ?_ | simp (disch := omega) only [qh, qs]) <;> (try refine ev_ ?_)) | with_reducible exact ti_)
  ·rw [← ha, qzg (by omega), hc]; rfl
  ·refine q8 (i + 1) [] ⟨⟨by omega, ?_⟩, by omega⟩ rfl (by simp) ?_ ?_ ?_ <;> (try refine ev_ ?_) <;> (try with_reducible exact ti_) <;> (try simp (disch := omega) only [qs, and_true, true_and])
   rw [← ha, qzg (l := l) (i := i) (by omega), hc, Bool.true_and]
  ·rw [← ha, List.drop_of_length_le (by omega)]; rfl

/-! low -/
def yLow (n : N) (fn : FuncId) (asn bd : Code) (ha : qdl Tryz.prog 10 asn = some q9f) (hb : qdl Tryz.prog 10 bd = some qbag) : Yld Bool where
 m := 5
 hs := fun b => [.blk (nc n), .blk [.bool false], .blk (nc n), .blk [.int .i64 1], .lp (if b then ⟨.done, some .ret, fn, [6, 7].toArray, asn, bd⟩ else ⟨.ready, none, fn, [6, 7].toArray, asn, bd⟩) (ql3 10 [(5, .fn 91 [] [.ptr 2 0, .ptr 3 0]), (4, enc n), (2, .ptr 1 0), (1, .ptr 0 0), (0, enc n)])]
 i := 4
 step := fun k l _ => (decide (100 < l), !decide (100 < l))
 len := fun _ => rfl
 bd := fun k => by cases k <;> (refine ev_ ?_; (try with_reducible exact ti_))
 lt := by omega
 live := fun b => b = false
 keep := fun s l n _ h => by simpa using h
 app := fun k l x hk => by
  subst hk
  refine qu0 (k := 5) rfl rfl qqu ha hb (by simp) (by simp) (by simp) fun lp => ?_
  repeat' (first | refine vs_ ?_ | ((first | refine vr_ ?_ | (refine cs_ ?_ ?_ <;> intro hc) | refine cj_ ?_ | simp (disch := omega) only [qh, qs]) <;> (try refine ev_ ?_)) | with_reducible exact ti_)

def lowF : Bool → Int → N → Bool × Bool := fun _ l _ => (decide (100 < l), !decide (100 < l))
def lowW (n : N) : Bool := (qeo lowF n 1 false).2
theorem qbva : ∀ n l s, (qeo lowF n l s).1 = !(qeo lowF n l s).2 := by
 refine N.ind fun n ih l s => ?_
 rw [qj3]
 split
 ·rename_i h
  have key : ∀ (r : List N), (∀ x ∈ r, ∀ l s, (qeo lowF x l s).1 = !(qeo lowF x l s).2) → ∀ (l : Int) (s : Bool), s = false → (qfi lowF l r s).1 = !(qfi lowF l r s).2 := by
   intro r
   induction r with
   | nil => intro _ l s hs; subst hs; rfl
   | cons x r ihr =>
     intro hx l s hs
     rw [qfi]
     split
     ·rename_i h3
      exact ihr (fun x hx' => hx x (by simp [hx'])) l _ (by rw [hx x (by simp), h3]; rfl)
     ·rename_i h3
      simp only [Bool.not_eq_true] at h3
      rw [hx x (by simp), h3]
  exact key _ ih _ _ (by simpa [lowF] using h)
 ·rename_i h
  simpa [lowF] using h

theorem q7x (n : N) : qz Tryz.prog 25 [enc n] (.bool (lowW n)) := by
 refine qj c0ez (by simp) (by simp only [go_sem]) rfl fun hw => ?_
 repeat' (first | refine vs_ ?_ | ((first | refine vr_ ?_ | (refine cs_ ?_ ?_ <;> intro hc) | refine cj_ ?_ | fail) <;> (try refine ev_ ?_)) | with_reducible exact ti_)
 refine qw0 (qckb n 1) (by simp only [go_sem]) ?_
 rintro H1 o ⟨rfl, rfl⟩
 (refine ev_ ?_; (try with_reducible exact ti_))
 refine qu6 (q8j rfl (Nat.zero_le _) fun fn asn bd ha hb => ?_)
 refine VCalls.mono (qcgw (yLow n fn asn bd ha hb) (n := n) (l := 1) (s := false) (p := 2) (q := 3) rfl rfl rfl) ?_
 rintro H1 o ⟨rfl, rfl⟩
 have hlow := qbva n 1 false
 rw [show qeo (yLow n fn asn bd ha hb).step n 1 false = qeo lowF n 1 false from rfl, lowW]
 generalize qeo lowF n 1 false = pq at hlow ⊢
 obtain ⟨p, q⟩ := pq
 simp only at hlow
 subst hlow
 cases q
 ·simp only [yLow, Bool.not_false, go_sem, ↓reduceIte]
 ·simp only [yLow, Bool.not_true, go_sem, ↓reduceIte]
  repeat' (first | refine vs_ ?_ | ((first | refine vr_ ?_ | (refine cs_ ?_ ?_ <;> intro hc) | refine cj_ ?_ | fail) <;> (try refine ev_ ?_)) | with_reducible exact ti_)
set_option maxRecDepth 4000

theorem qce6 {i : Nat} (h : i ≤ maxLen) : IntKind.i64.wrap ((i : Int) - 1) = (i : Int) - 1 := by
 unfold maxLen at h
 simp [IntKind.wrap, IntKind.signed, IntKind.bits]
 omega
mutual
def tyW : N → Bool
 | .mk k _ n t ks => if k = 1 then decide (n = 0) && varW t && decide ((ks.length : Int) = 0)
   else if k = 2 ∧ n = 0 then (if t = [45, 62] then decide ((ks.length : Int) = 2) else conW t) && tysW ks else false
def tysW : List N → Bool
 | [] => true
 | x :: r => tyW x && tysW r
end
theorem q2p (l : List N) : tysW l = l.all tyW := by
 induction l with
 | nil => rfl
 | cons x r ih => rw [tysW, ih]; rfl
theorem qcjy (n : N) : tyW n = if n.kind = 1 then decide (n.num = 0) && varW n.text && decide ((n.kids.length : Int) = 0)
 else if n.kind = 2 ∧ n.num = 0 then (if n.text = [45, 62] then decide ((n.kids.length : Int) = 2) else conW n.text) && n.kids.all tyW else false := by
 rw [← q2p]; cases n; rw [tyW]; rfl

theorem qfz : ∀ n, qz Tryz.prog 57 [enc n] (.bool (tyW n)) := by
 refine N.ind fun n ih => ?_
 refine qj c0er (by simp) (by simp only [go_sem]) rfl fun hw => ?_
 rw [qcjy]
 repeat' (first | refine vs_ ?_ | ((first | refine vr_ ?_ | refine qa (qec qkt _) fun _ => ?_ | refine qa (qci ih) fun _ => ?_ | refine qa (qg8 _) fun _ => ?_ | (refine cs_ ?_ ?_ <;> intro hc) | refine cj_ ?_ | fail) <;> (try refine ev_ ?_)) | with_reducible exact ti_)
 all_goals simp_all [qij]

theorem q7g : conW [45, 62] = false := by decide
theorem qcia {t : List UInt8} (h : conW t = true) : ¬ t = [45, 62] := fun e => by rw [e, q7g] at h; cases h
/-! patterns -/
mutual
def paW : N → Bool
 | .mk k _ n t ks => if k = 11 then decide (n = 0) && varW t && decide ((ks.length : Int) = 0)
   else if k = 12 then decide (t = []) && decide (n = 0) && decide ((ks.length : Int) = 0)
   else if k = 13 then decide (t = []) && decide (0 ≤ n) && decide ((ks.length : Int) = 0)
   else if k = 14 then decide (n = 0) && conW t && pasW ks else false
def pasW : List N → Bool
 | [] => true
 | x :: r => paW x && pasW r
end
theorem q2x (l : List N) : pasW l = l.all paW := by
 induction l with
 | nil => rfl
 | cons x r ih => rw [pasW, ih]; rfl
theorem qcj0 (n : N) : paW n = if n.kind = 11 then decide (n.num = 0) && varW n.text && decide ((n.kids.length : Int) = 0)
 else if n.kind = 12 then decide (n.text = []) && decide (n.num = 0) && decide ((n.kids.length : Int) = 0)
 else if n.kind = 13 then decide (n.text = []) && decide (0 ≤ n.num) && decide ((n.kids.length : Int) = 0)
 else if n.kind = 14 then decide (n.num = 0) && conW n.text && n.kids.all paW else false := by
 rw [← q2x]; cases n; rw [paW]; rfl
theorem q1k : ∀ n, qz Tryz.prog 147 [enc n] (.bool (paW n)) := by
 refine N.ind fun n ih => ?_
 refine qj c0es (by simp) (by simp only [go_sem]) rfl fun hw => ?_
 rw [qcj0]
 repeat' (first | refine vs_ ?_ | ((first | refine vr_ ?_ | refine qa (qec qkt _) fun _ => ?_ | refine qa (qec qg8 _) fun _ => ?_ | refine qa (qci ih) fun _ => ?_ | refine qa (qi7 _) fun _ => ?_ | (refine cs_ ?_ ?_ <;> intro hc) | refine cj_ ?_ | fail) <;> (try refine ev_ ?_)) | with_reducible exact ti_)
 all_goals simp_all [qij, qsh]
/-! predicates, contexts, signatures -/
def prW (n : N) : Bool := decide (n.kind = 3) && decide (n.num = 0) && conW n.text && decide ((n.kids.length : Int) = 1) && tyW (n.kids.getD 0 N0)
theorem qlg (n : N) : qz Tryz.prog 56 [enc n] (.bool (prW n)) := by
 refine qj c0et (by simp) (by simp only [go_sem]) rfl fun hw => ?_
 repeat' (first | refine vs_ ?_ | ((first | refine vr_ ?_ | refine qa (qec qg8 _) fun _ => ?_ | refine qa (qfz _) fun _ => ?_ | (refine cs_ ?_ ?_ <;> intro hc) | refine cj_ ?_ | simp (disch := omega) only [qh, qs]) <;> (try refine ev_ ?_)) | with_reducible exact ti_)
 all_goals simp_all [qij, prW]
def quW (n : N) : Bool := decide (n.kind = 4) && qsh n && decide (0 ≤ (n.kids.length : Int) - 1) && (n.kids.take ((n.kids.length : Int) - 1).toNat).all prW && tyW (n.kids.getD ((n.kids.length : Int) - 1).toNat N0)
theorem qze (n : N) : qz Tryz.prog 96 [enc n] (.bool (quW n)) := by
 refine qj c0eu (by simp) (by simp only [go_sem]) rfl fun hw => ?_
 have hkl : n.kids.length ≤ maxLen := ((qtd n).1 hw.1).1
 repeat' (first | refine vs_ ?_ | ((first | refine vr_ ?_ | refine qa (qi7 _) fun _ => ?_ | refine qa (qci fun x _ => qlg x) fun _ => ?_ | refine qa (qfz _) fun _ => ?_ | simp (disch := omega) only [qce6] | (refine cs_ ?_ ?_ <;> intro hc) | refine cj_ ?_ | simp (disch := omega) only [qh, qs]) <;> (try refine ev_ ?_)) | with_reducible exact ti_)
 all_goals first | (simp only [quW, *, decide_true, decide_false, Bool.and_true, Bool.true_and, Bool.and_false, Bool.false_and, Bool.or_true, Bool.true_or, Bool.or_false, Bool.false_or, Bool.not_true, Bool.not_false, if_true, if_false, reduceIte, Int.reduceEq]; done) | (simp_all [quW]; done) | (simp_all [quW]; omega)
def sgW (n : N) : Bool := decide (n.kind = 32) && decide (n.num = 0) && varW n.text && decide ((n.kids.length : Int) = 1) && quW (n.kids.getD 0 N0)
theorem qh7 (n : N) : qz Tryz.prog 52 [enc n] (.bool (sgW n)) := by
 refine qj c0ev (by simp) (by simp only [go_sem]) rfl fun hw => ?_
 repeat' (first | refine vs_ ?_ | ((first | refine vr_ ?_ | refine qa (qec qkt _) fun _ => ?_ | refine qa (qze _) fun _ => ?_ | (refine cs_ ?_ ?_ <;> intro hc) | refine cj_ ?_ | simp (disch := omega) only [qh, qs]) <;> (try refine ev_ ?_)) | with_reducible exact ti_)
 all_goals first | (simp only [qij, sgW, *, decide_true, decide_false, Bool.and_true, Bool.true_and, Bool.and_false, Bool.false_and, Bool.or_true, Bool.true_or, Bool.or_false, Bool.false_or, Bool.not_true, Bool.not_false, if_true, if_false, reduceIte, Int.reduceEq]; done) | (simp_all [qij, sgW]; done) | (simp_all [qij, sgW]; omega)
set_option maxRecDepth 4000

abbrev T3 := Bool × Bool × Bool
def d3 : T3 × N := ((false, false, false), N0)
mutual
def eba : N → T3
 | .mk k _ n t ks =>
   let l := (ebas ks).zip ks
   (if k = 21 then decide (n = 0) && varW t && decide ((ks.length : Int) = 0)
    else if k = 22 then decide (n = 0) && conW t && decide ((ks.length : Int) = 0)
    else if k = 23 then decide (t = []) && decide (0 ≤ n) && decide ((ks.length : Int) = 0)
    else if k = 24 then decide (t = []) && decide (n = 0) && decide ((ks.length : Int) = 2) && l.all (·.1.1)
    else if k = 25 then decide (n = 0) && varW t && decide ((ks.length : Int) = 1) && (l.getD 0 d3).1.1
    else if k = 26 then decide (t = []) && decide (n = 0) && decide (2 ≤ (ks.length : Int)) && (l.take ((ks.length : Int) - 1).toNat).all (fun p => p.1.2.1 || sgW p.2) && (l.getD ((ks.length : Int) - 1).toNat d3).1.1
    else if k = 27 then decide (t = []) && decide (n = 0) && decide (2 ≤ (ks.length : Int)) && (l.getD 0 d3).1.1 && (l.drop 1).all (·.1.2.2)
    else if k = 28 then decide (t = []) && decide (n = 0) && decide ((ks.length : Int) = 3) && l.all (·.1.1)
    else false,
    decide (k = 31) && decide (n = 0) && varW t && decide ((ks.length : Int) = 1) && (l.getD 0 d3).1.1,
    decide (k = 15) && decide (t = []) && decide (n = 0) && decide ((ks.length : Int) = 2) && paW (l.getD 0 d3).2 && (l.getD 1 d3).1.1)
def ebas : List N → List T3
 | [] => []
 | x :: r => eba x :: ebas r
end
def exW (n : N) : Bool := (eba n).1
def biW (n : N) : Bool := (eba n).2.1
def alW (n : N) : Bool := (eba n).2.2
theorem qwe (l : List N) : (ebas l).zip l = l.map fun x => (eba x, x) := by
 induction l with
 | nil => rfl
 | cons x r ih => rw [ebas, List.zip_cons_cons, ih]; rfl
theorem qlq {l : List N} {i : Nat} (h : i < l.length) : (l.map fun x => (eba x, x)).getD i d3 = (eba (l.getD i N0), l.getD i N0) := by
 rw [List.getD_eq_getElem?_getD, List.getElem?_map, List.getElem?_eq_getElem h, List.getD_eq_getElem?_getD, List.getElem?_eq_getElem h]; rfl
theorem q12 {c a b : Bool} (h : c = true → a = b) : (c && a) = (c && b) := by cases c <;> simp_all
theorem qrz (n : N) : exW n = if n.kind = 21 then decide (n.num = 0) && varW n.text && decide ((n.kids.length : Int) = 0)
 else if n.kind = 22 then decide (n.num = 0) && conW n.text && decide ((n.kids.length : Int) = 0)
 else if n.kind = 23 then decide (n.text = []) && decide (0 ≤ n.num) && decide ((n.kids.length : Int) = 0)
 else if n.kind = 24 then decide (n.text = []) && decide (n.num = 0) && decide ((n.kids.length : Int) = 2) && n.kids.all exW
 else if n.kind = 25 then decide (n.num = 0) && varW n.text && decide ((n.kids.length : Int) = 1) && exW (n.kids.getD 0 N0)
 else if n.kind = 26 then decide (n.text = []) && decide (n.num = 0) && decide (2 ≤ (n.kids.length : Int)) && (n.kids.take ((n.kids.length : Int) - 1).toNat).all (fun x => biW x || sgW x) && exW (n.kids.getD ((n.kids.length : Int) - 1).toNat N0)
 else if n.kind = 27 then decide (n.text = []) && decide (n.num = 0) && decide (2 ≤ (n.kids.length : Int)) && exW (n.kids.getD 0 N0) && (n.kids.drop 1).all alW
 else if n.kind = 28 then decide (n.text = []) && decide (n.num = 0) && decide ((n.kids.length : Int) = 3) && n.kids.all exW
 else false := by
 obtain ⟨k, p, m, t, ks⟩ := n
 simp only [exW, eba, N.kind, N.num, N.text, N.kids, qwe, ← List.map_take, ← List.map_drop, List.all_map]
 have h0 : ∀ (c : Int), 1 ≤ c → decide ((ks.length : Int) = c) = true → ((ks.map fun x => (eba x, x)).getD 0 d3).1.1 = (eba (ks.getD 0 N0)).1 := fun c h1 h => by
  simp only [decide_eq_true_eq] at h
  rw [qlq (by omega)]
 have h2 : decide (2 ≤ (ks.length : Int)) = true → ((ks.map fun x => (eba x, x)).getD 0 d3).1.1 = (eba (ks.getD 0 N0)).1 := fun h => by
  simp only [decide_eq_true_eq] at h
  rw [qlq (by omega)]
 have h3 : decide (2 ≤ (ks.length : Int)) = true → ((ks.map fun x => (eba x, x)).getD ((ks.length : Int) - 1).toNat d3).1.1 = (eba (ks.getD ((ks.length : Int) - 1).toNat N0)).1 := fun h => by
  simp only [decide_eq_true_eq] at h
  rw [qlq (by omega)]
 repeat' (refine ite_congr rfl (fun _ => ?_) (fun _ => ?_))
 all_goals first
  | rfl
  | (refine q12 fun h => h0 1 (by omega) ?_; simp only [Bool.and_eq_true] at h; exact h.2)
  | (refine q12 fun h => h3 ?_; simp only [Bool.and_eq_true] at h; exact h.1.2)
  | (refine congrArg (· && _) (q12 fun h => h2 ?_); simp only [Bool.and_eq_true] at h; exact h.2)
theorem qbav (n : N) : biW n = (decide (n.kind = 31) && decide (n.num = 0) && varW n.text && decide ((n.kids.length : Int) = 1) && exW (n.kids.getD 0 N0)) := by
 obtain ⟨k, p, m, t, ks⟩ := n
 simp only [biW, exW, eba, N.kind, N.num, N.text, N.kids, qwe]
 refine q12 fun h => ?_
 simp only [Bool.and_eq_true, decide_eq_true_eq] at h
 rw [qlq (by omega)]
theorem qbmm (n : N) : alW n = (decide (n.kind = 15) && decide (n.text = []) && decide (n.num = 0) && decide ((n.kids.length : Int) = 2) && paW (n.kids.getD 0 N0) && exW (n.kids.getD 1 N0)) := by
 obtain ⟨k, p, m, t, ks⟩ := n
 simp only [alW, exW, eba, N.kind, N.num, N.text, N.kids, qwe]
 by_cases h : (ks.length : Int) = 2
 ·rw [qlq (by omega), qlq (by omega)]; rfl
 ·simp [h]

theorem qv2 {x : N} (h : qz Tryz.prog 51 [enc x] (.bool (biW x))) : qz Tryz.prog 127 [enc x] (.bool (biW x || sgW x)) := by
 refine qj c0en (by simp) (by simp only [go_sem]) rfl fun hw => ?_
 repeat' (first | refine vs_ ?_ | ((first | refine vr_ ?_ | refine qa h fun _ => ?_ | refine qa (qh7 x) fun _ => ?_ | (refine cs_ ?_ ?_ <;> intro hc) | refine cj_ ?_ | fail) <;> (try refine ev_ ?_)) | with_reducible exact ti_)
 all_goals first | (simp only [*, decide_true, decide_false, Bool.and_true, Bool.true_and, Bool.and_false, Bool.false_and, Bool.or_true, Bool.true_or, Bool.or_false, Bool.false_or, Bool.not_true, Bool.not_false, if_true, if_false, reduceIte, Int.reduceEq]; done) | (simp_all []; done) | (simp_all []; omega)

set_option maxHeartbeats 2000000 in
theorem qs3 {n : N} (ih : ∀ x ∈ n.kids, qz Tryz.prog 95 [enc x] (.bool (exW x))) (iha : ∀ x ∈ n.kids, qz Tryz.prog 128 [enc x] (.bool (alW x))) (ihw : ∀ x ∈ n.kids, qz Tryz.prog 127 [enc x] (.bool (biW x || sgW x))) :
 qz Tryz.prog 95 [enc n] (.bool (exW n)) := by
 refine qj c0eo (by simp) (by simp only [go_sem]) rfl fun hw => ?_
 have hkl : n.kids.length ≤ maxLen := ((qtd n).1 hw.1).1
 repeat' (first | refine vs_ ?_ | ((first | refine vr_ ?_ | refine qa (qec qkt _) fun _ => ?_ | refine qa (qec qg8 _) fun _ => ?_ | refine qa (qi7 _) fun _ => ?_ | refine qa (ih _ (qgy (by omega))) fun _ => ?_ | refine qa (qci ih) fun _ => ?_ | refine qa (qci (f := alW) fun x hx => iha x (List.mem_of_mem_drop hx)) fun _ => ?_ | refine qa (qci (f := fun x => biW x || sgW x) fun x hx => ihw x (List.mem_of_mem_take hx)) fun _ => ?_ | simp (disch := omega) only [qce6] | (refine cs_ ?_ ?_ <;> intro hc) | refine cj_ ?_ | simp (disch := omega) only [qh, qs]) <;> (try refine ev_ ?_)) | with_reducible exact ti_)
 all_goals clear ih iha ihw hw hkl
 all_goals rw [qrz n]
 all_goals (try simp only [qij, qsh] at *)
 all_goals first | (simp only [*, decide_true, decide_false, Bool.and_true, Bool.true_and, Bool.and_false, Bool.false_and, Bool.or_true, Bool.true_or, Bool.or_false, Bool.false_or, Bool.not_true, Bool.not_false, if_true, if_false, reduceIte, Int.reduceEq]; done) | (simp_all []; done) | (simp_all []; omega)

theorem qno : ∀ n, qz Tryz.prog 95 [enc n] (.bool (exW n)) ∧ qz Tryz.prog 51 [enc n] (.bool (biW n)) ∧ qz Tryz.prog 128 [enc n] (.bool (alW n)) := by
 refine N.ind fun n ih => ⟨qs3 (fun x hx => (ih x hx).1) (fun x hx => (ih x hx).2.2) (fun x hx => qv2 (ih x hx).2.1), ?_, ?_⟩
 ·refine qj c0ep (by simp) (by simp only [go_sem]) rfl fun hw => ?_
  rw [qbav n]
  repeat' (first | refine vs_ ?_ | ((first | refine vr_ ?_ | refine qa (qec qkt _) fun _ => ?_ | refine qa (ih _ (qgy (by omega))).1 fun _ => ?_ | refine qb (ih _ (qgy (by omega))).1 ?_ | (refine cs_ ?_ ?_ <;> intro hc) | refine cj_ ?_ | simp (disch := omega) only [qh, qs]) <;> (try refine ev_ ?_)) | with_reducible exact ti_)
  all_goals first | (simp only [qij, *, decide_true, decide_false, Bool.and_true, Bool.true_and, Bool.and_false, Bool.false_and, Bool.or_true, Bool.true_or, Bool.or_false, Bool.false_or, Bool.not_true, Bool.not_false, if_true, if_false, reduceIte, Int.reduceEq]; done) | (simp_all [qij]; done) | (simp_all [qij]; omega)
 ·refine qj c0eq (by simp) (by simp only [go_sem]) rfl fun hw => ?_
  rw [qbmm n]
  repeat' (first | refine vs_ ?_ | ((first | refine vr_ ?_ | refine qa (qi7 _) fun _ => ?_ | refine qa (q1k _) fun _ => ?_ | refine qa (ih _ (qgy (by omega))).1 fun _ => ?_ | refine qb (ih _ (qgy (by omega))).1 ?_ | (refine cs_ ?_ ?_ <;> intro hc) | refine cj_ ?_ | simp (disch := omega) only [qh, qs]) <;> (try refine ev_ ?_)) | with_reducible exact ti_)
  all_goals first | (simp only [qsh, *, decide_true, decide_false, Bool.and_true, Bool.true_and, Bool.and_false, Bool.false_and, Bool.or_true, Bool.true_or, Bool.or_false, Bool.false_or, Bool.not_true, Bool.not_false, if_true, if_false, reduceIte, Int.reduceEq]; done) | (simp_all [qsh]; done) | (simp_all [qsh]; omega)


set_option maxRecDepth 4000

def vaW (n : N) : Bool := decide (n.kind = 1) && tyW n
theorem qj0 (n : N) : qz Tryz.prog 54 [enc n] (.bool (vaW n)) := by
 refine qj c0ej (by simp) (by simp only [go_sem]) rfl fun hw => ?_
 repeat' (first | refine vs_ ?_ | ((first | refine vr_ ?_ | refine qa (qfz _) fun _ => ?_ | (refine cs_ ?_ ?_ <;> intro hc) | refine cj_ ?_ | fail) <;> (try refine ev_ ?_)) | with_reducible exact ti_)
 all_goals first | (simp only [vaW, *, decide_true, decide_false, Bool.and_true, Bool.true_and, Bool.and_false, Bool.false_and, Bool.or_true, Bool.true_or, Bool.or_false, Bool.false_or, Bool.not_true, Bool.not_false, if_true, if_false, reduceIte, Int.reduceEq]; done) | (simp_all [vaW]; done) | (simp_all [vaW]; omega)
def cnW (n : N) : Bool := decide (n.kind = 34) && qij n conW && n.kids.all tyW
theorem qjl (n : N) : qz Tryz.prog 55 [enc n] (.bool (cnW n)) := by
 refine qj c0ek (by simp) (by simp only [go_sem]) rfl fun hw => ?_
 repeat' (first | refine vs_ ?_ | ((first | refine vr_ ?_ | refine qa (qec qg8 _) fun _ => ?_ | refine qa (qci fun x _ => qfz x) fun _ => ?_ | (refine cs_ ?_ ?_ <;> intro hc) | refine cj_ ?_ | fail) <;> (try refine ev_ ?_)) | with_reducible exact ti_)
 all_goals first | (simp only [cnW, *, decide_true, decide_false, Bool.and_true, Bool.true_and, Bool.and_false, Bool.false_and, Bool.or_true, Bool.true_or, Bool.or_false, Bool.false_or, Bool.not_true, Bool.not_false, if_true, if_false, reduceIte, Int.reduceEq]; done) | (simp_all [cnW]; done) | (simp_all [cnW]; omega)
def deW (n : N) : Bool :=
 if n.kind = 31 then biW n else if n.kind = 32 then sgW n
 else conW n.text && !decide (n.num < 0) && !decide ((n.kids.length : Int) ≤ n.num) &&
  (if n.kind = 33 then (n.kids.take n.num.toNat).all vaW && cnW (n.kids.getD n.num.toNat N0) && (n.kids.drop (n.num + 1).toNat).all cnW
   else if n.kind = 35 then (n.kids.take n.num.toNat).all prW && vaW (n.kids.getD n.num.toNat N0) && (n.kids.drop (n.num + 1).toNat).all sgW
   else if n.kind = 36 then (n.kids.take n.num.toNat).all prW && tyW (n.kids.getD n.num.toNat N0) && (n.kids.drop (n.num + 1).toNat).all biW
   else false)
theorem qpa (n : N) : qz Tryz.prog 28 [enc n] (.bool (deW n)) := by
 refine qj c0el (by simp) (by simp only [go_sem]) rfl fun hw => ?_
 have hkl : n.kids.length ≤ maxLen := ((qtd n).1 hw.1).1
 repeat' (first | refine vs_ ?_ | ((first | refine vr_ ?_ | fail) <;> (try simp (disch := first | omega | (simp only [List.length_set, List.length_append, List.length_cons, List.length_nil]; done) | (simp only [List.length_set, List.length_append, List.length_cons, List.length_nil]; omega)) only [qh, qe9, go_sem, ↓reduceIte])) | ((first | (refine cs_ ?_ ?_ <;> intro hc) | refine cj_ ?_ | simp (disch := omega) only [qh, qs] | refine qa (qno n).2.1 fun _ => ?_ | refine qa (qh7 n) fun _ => ?_ | refine qa (qg8 _) fun _ => ?_ | refine qa (qci fun x _ => qj0 x) fun _ => ?_ | refine qa (qci fun x _ => qlg x) fun _ => ?_ | refine qa (qci fun x _ => qjl x) fun _ => ?_ | refine qa (qci fun x _ => qh7 x) fun _ => ?_ | refine qa (qci (f := biW) fun x _ => (qno x).2.1) fun _ => ?_ | refine qa (qjl _) fun _ => ?_ | refine qa (qj0 _) fun _ => ?_ | refine qa (qfz _) fun _ => ?_ | refine qb (qno n).2.1 ?_ | refine qb (qh7 n) ?_ | refine qb (qg8 _) ?_ | refine qb (qci fun x _ => qj0 x) ?_ | refine qb (qci fun x _ => qlg x) ?_ | refine qb (qci fun x _ => qjl x) ?_ | refine qb (qci fun x _ => qh7 x) ?_ | refine qb (qci (f := biW) fun x _ => (qno x).2.1) ?_ | refine qb (qjl _) ?_ | refine qb (qj0 _) ?_ | refine qb (qfz _) ?_) <;> (try refine ev_ ?_)) | with_reducible exact ti_)
 all_goals clear hw hkl
 all_goals simp only [deW]
 all_goals first | (simp only [*, decide_true, decide_false, Bool.and_true, Bool.true_and, Bool.and_false, Bool.false_and, Bool.or_true, Bool.true_or, Bool.or_false, Bool.false_or, Bool.not_true, Bool.not_false, if_true, if_false, reduceIte, Int.reduceEq]; done) | (simp_all []; done) | (simp_all []; omega)

def qs6 (n : N) : Bool := if n.kind = 37 then lowW n && qsh n && n.kids.all deW else lowW n && deW n
theorem qtn (n : N) : qz Tryz.prog 9 [enc n] (.bool (qs6 n)) := by
 refine qj c0em (by simp) (by simp only [go_sem]) rfl fun hw => ?_
 repeat' (first | refine vs_ ?_ | ((first | refine vr_ ?_ | refine qa (q7x _) fun _ => ?_ | refine qa (qi7 _) fun _ => ?_ | refine qa (qpa _) fun _ => ?_ | refine qa (qci fun x _ => qpa x) fun _ => ?_ | (refine cs_ ?_ ?_ <;> intro hc) | refine cj_ ?_ | fail) <;> (try refine ev_ ?_)) | with_reducible exact ti_)
 all_goals first | (simp only [qs6, *, decide_true, decide_false, Bool.and_true, Bool.true_and, Bool.and_false, Bool.false_and, Bool.or_true, Bool.true_or, Bool.or_false, Bool.false_or, Bool.not_true, Bool.not_false, if_true, if_false, reduceIte, Int.reduceEq]; done) | (simp_all [qs6]; done) | (simp_all [qs6]; omega)

mutual
def sz : N → Nat
 | .mk _ _ _ _ ks => szs ks + 1
def szs : List N → Nat
 | [] => 0
 | x :: r => sz x + szs r
end
mutual
def dp : N → Nat
 | .mk _ _ _ _ ks => dps ks + 1
def dps : List N → Nat
 | [] => 0
 | x :: r => max (dp x) (dps r)
end
theorem qkl (n : N) : sz n = szs n.kids + 1 := by cases n; rw [sz]; rfl
theorem qbbm (n : N) : dp n = dps n.kids + 1 := by cases n; rw [dp]; rfl
theorem q0s : ∀ {l : List N}, (∀ x ∈ l, dp x ≤ sz x) → dps l ≤ szs l
 | [], _ => Nat.le_refl _
 | x :: r, h => by
   have h1 := h x (by simp)
   have h2 := q0s (l := r) fun y hy => h y (by simp [hy])
   simp only [dps, szs]; omega
theorem qcln : ∀ n, dp n ≤ sz n := N.ind fun n ih => by rw [qbbm, qkl]; have := q0s ih; omega

theorem qoo {z : Int} (h0 : -1 ≤ z) (h1 : z ≤ 1000000000) : IntKind.i64.wrap z = z := by
 simp [IntKind.wrap, IntKind.signed, IntKind.bits]
 omega

theorem qbeq : ∀ n, sz n ≤ 1000000 → qz8 n = sz n := N.ind fun n ih h => by
 rw [qbl8, qkl]
 rw [qkl] at h
 have key : ∀ (l : List N), (∀ x ∈ l, sz x ≤ 1000000 → qz8 x = sz x) → ∀ a : Int, 1 ≤ a → a + szs l ≤ 1000001 → que a l = a + szs l := by
  intro l
  induction l with
  | nil => intro _ a h0 h1; simp [que, szs]
  | cons x r ihr =>
    intro hx a h0 h1
    simp only [que, szs] at h1 ⊢
    rw [hx x (by simp) (by omega), qoo (by omega) (by omega), ihr (fun y hy => hx y (by simp [hy])) _ (by omega) (by omega)]
    omega
 rw [key n.kids ih 1 (by omega) (by omega)]
 omega
def szF : Int → Int → N → Int × Bool := fun k _ _ => (IntKind.i64.wrap (k + 1), true)
theorem qb1s : ∀ n l (s : Int), 0 ≤ s → s + sz n ≤ 2000000 → qeo szF n l s = (s + sz n, true) := N.ind fun n ih l s h0 h1 => by
 rw [qj3, qkl]
 rw [qkl] at h1
 simp only [szF, if_true]
 have key : ∀ (r : List N), (∀ x ∈ r, ∀ l (s : Int), 0 ≤ s → s + sz x ≤ 2000000 → qeo szF x l s = (s + sz x, true)) → ∀ l (s : Int), 0 ≤ s → s + szs r ≤ 2000000 → qfi szF l r s = (s + szs r, true) := by
  intro r
  induction r with
  | nil => intro _ l s _ _; simp [qfi, szs]
  | cons x r ihr =>
    intro hx l s h0 h1
    simp only [qfi, szs] at h1 ⊢
    rw [hx x (by simp) _ _ h0 (by omega), if_pos rfl, ihr (fun y hy => hx y (by simp [hy])) _ _ (by omega) (by omega)]
    simp only [Prod.mk.injEq, and_true]; omega
 have := key n.kids ih (IntKind.i64.wrap (l + 1)) (IntKind.i64.wrap (s + 1)) (by rw [qoo (by omega) (by omega)]; omega) (by rw [qoo (by omega) (by omega)]; omega)
 rw [this, qoo (by omega) (by omega)]
 simp only [Prod.mk.injEq, and_true]; omega
theorem qcli {n : N} (h : sz n ≤ 3000) : (qeo (fun (k : Int) _ _ => (IntKind.i64.wrap (k + 1), true)) n 1 0).1 = qz8 n := by
 show (qeo szF n 1 0).1 = qz8 n
 rw [qb1s n 1 0 (by omega) (by omega), qbeq n (by omega)]; simp

theorem qbaa : ∀ n, sz n ≤ 1000000 → depR n = dp n := N.ind fun n ih h => by
 rw [q9u, qbbm]
 rw [qkl] at h
 have key : ∀ (l : List N), (∀ x ∈ l, sz x ≤ 1000000 → depR x = dp x) → szs l ≤ 1000000 → ∀ a : Int, 0 ≤ a → qw8 a l = max a (dps l) := by
  intro l
  induction l with
  | nil => intro _ _ a h0; simp [qw8, dps]; omega
  | cons x r ihr =>
    intro hx hs a h0
    simp only [szs] at hs
    simp only [qw8, dps]
    rw [hx x (by simp) (by omega)]
    have := ihr (fun y hy => hx y (by simp [hy])) (by omega)
    split
    ·rw [this _ (by omega)]; omega
    ·rw [this _ (by omega)]; omega
 have hd := q0s (l := n.kids) fun x _ => qcln x
 rw [key n.kids ih (by omega) 0 (by omega), qoo (by omega) (by omega)]
 omega
def dpF : Int → Int → N → Int × Bool := fun k l _ => (if l > k then l else k, true)
theorem qbow : ∀ n (l s : Int), 0 ≤ l → l + sz n ≤ 2000000 → qeo dpF n l s = (max s (l + dp n - 1), true) := N.ind fun n ih l s h0 h1 => by
 rw [qj3, qbbm]
 rw [qkl] at h1
 simp only [dpF, if_true]
 have key : ∀ (r : List N), (∀ x ∈ r, ∀ (l s : Int), 0 ≤ l → l + sz x ≤ 2000000 → qeo dpF x l s = (max s (l + dp x - 1), true)) → ∀ (l s : Int), 0 ≤ l → l + szs r ≤ 2000000 → l - 1 ≤ s → qfi dpF l r s = (max s (l + dps r - 1), true) := by
  intro r
  induction r with
  | nil => intro _ l s _ _ h; simp only [qfi, dps, Prod.mk.injEq, and_true]; omega
  | cons x r ihr =>
    intro hx l s h0 h1 h2
    simp only [szs] at h1
    simp only [qfi, dps]
    rw [hx x (by simp) _ _ h0 (by omega), if_pos rfl, ihr (fun y hy => hx y (by simp [hy])) _ _ (by omega) (by omega) (by omega)]
    simp only [Prod.mk.injEq, and_true]; omega
 have := key n.kids ih (IntKind.i64.wrap (l + 1)) (if l > s then l else s) (by rw [qoo (by omega) (by omega)]; omega) (by rw [qoo (by omega) (by omega)]; omega) (by rw [qoo (by omega) (by omega)]; split <;> omega)
 rw [this, qoo (by omega) (by omega)]
 simp only [Prod.mk.injEq, and_true]
 split <;> omega
theorem qbh2 : ∀ n (l : Int) (s : Bool), 0 ≤ l → l + sz n ≤ 2000000 → (qeo lowF n l s).2 = decide (l + dp n - 1 ≤ 100) := N.ind fun n ih l s h0 h1 => by
 rw [qj3, qbbm]
 rw [qkl] at h1
 have key : ∀ (r : List N), (∀ x ∈ r, ∀ (l : Int) (s : Bool), 0 ≤ l → l + sz x ≤ 2000000 → (qeo lowF x l s).2 = decide (l + dp x - 1 ≤ 100)) → ∀ (l : Int) (s : Bool), 0 ≤ l → l + szs r ≤ 2000000 → l - 1 ≤ 100 → (qfi lowF l r s).2 = decide (l + dps r - 1 ≤ 100) := by
  intro r
  induction r with
  | nil => intro _ l s _ _ h; simp only [qfi, dps]; symm; simp; omega
  | cons x r ihr =>
    intro hx l s h0 h1 h2
    simp only [szs] at h1
    simp only [qfi, dps]
    rw [hx x (by simp) _ _ h0 (by omega)]
    split
    ·rename_i h3
     simp only [decide_eq_true_eq] at h3
     rw [ihr (fun y hy => hx y (by simp [hy])) _ _ (by omega) (by omega) (by omega)]
     congr 1; simp only [eq_iff_iff]; omega
    ·rename_i h3
     simp only [decide_eq_true_eq] at h3
     exact (decide_eq_false (by omega)).symm
 by_cases h2 : (100 : Int) < l
 ·simp only [lowF, h2, decide_true, Bool.not_true, Bool.false_eq_true, if_false]
  exact (decide_eq_false (by omega)).symm
 ·simp only [lowF, h2, decide_false, Bool.not_false, if_true]
  rw [key n.kids ih _ _ (by rw [qoo (by omega) (by omega)]; omega) (by rw [qoo (by omega) (by omega)]; omega) (by rw [qoo (by omega) (by omega)]; omega), qoo (by omega) (by omega)]
  congr 1; simp only [eq_iff_iff]; omega
end Go.Proofs.YtfjbmjplnmaclaaGreat
