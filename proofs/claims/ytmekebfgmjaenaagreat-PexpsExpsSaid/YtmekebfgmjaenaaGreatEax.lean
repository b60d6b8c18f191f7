/- Texts of this proof, joined. -/
import Derived.Test.YtmekebfgmjaenaaGreatEaw
import Derived.Test.YtmekebfgmjaenaaGreatEao

/- trees: low, each, bare, named, plain -/
set_option maxRecDepth 4000
namespace Go.Proofs.YtmekebfgmjaenaaGreat
open Go Go.RowKit Go.V
set_option linter.unusedVariables false
set_option linter.unusedSimpArgs false

theorem q3o (l : List N) (i : Nat) : (encs l).take i = encs (l.take i) := by rw [qfm, qfm, List.map_take]
theorem q5d (l : List N) (i : Nat) : (encs l).drop i = encs (l.drop i) := by rw [qfm, qfm, List.map_drop]
attribute [go_sem] q3o q5d
def qsl (n : N) : Bool := decide (n.text = []) && decide (n.num = 0)
theorem qfa (n : N) : qbf Tryz.prog 73 [enc n] (.bool (qsl n)) := by
  refine qu c0el (by simp) (by simp only [go_sem]) rfl fun hw => ?_
  repeat' (first | refine ql ?_ | ((first | refine qn ?_ | refine qm ?_); simp only [go_sem, ↓reduceIte, Nat.reduceEqDiff, Nat.reduceAdd, Nat.reduceSub, Nat.reduceMul, Nat.reduceLT, Nat.reduceLeDiff, reduceCtorEq, Int.reduceToNat]) | ((first | refine qf ?_ ?_ | refine qe ?_ ?_) <;> intro hc <;> simp only [hc, go_sem, ↓reduceIte, Nat.reduceEqDiff, Nat.reduceAdd, Nat.reduceSub, Nat.reduceMul, Nat.reduceLT, Nat.reduceLeDiff, reduceCtorEq, Int.reduceToNat] <;> (try simp only [qb, qa, decide_eq_true_eq, decide_eq_false_iff_not, Bool.and_eq_true] at hc)) | refine And.intro (by first | assumption | omega | (have := qg (by assumption); omega) | (unfold qp; omega)) ?_ | fail)
  all_goals simp_all [qsl]
def qip (n : N) (f : List UInt8 → Bool) : Bool := decide (n.num = 0) && f n.text
theorem qcc {so : FuncId} {f : List UInt8 → Bool} (h : ∀ l, qbf Tryz.prog so [.str l] (.bool (f l))) (n : N) : qbf Tryz.prog 70 [enc n, .fn so [] []] (.bool (qip n f)) := by
  refine qu c0em (by simp) (by simp only [go_sem]) rfl fun hw => ?_
  repeat' (first | refine ql ?_ | ((first | refine qn ?_ | refine qm ?_ | refine qc (h _) fun _ => ?_ | refine qd  (h _) ?_); simp only [go_sem, ↓reduceIte, Nat.reduceEqDiff, Nat.reduceAdd, Nat.reduceSub, Nat.reduceMul, Nat.reduceLT, Nat.reduceLeDiff, reduceCtorEq, Int.reduceToNat]) | ((first | refine qf ?_ ?_ | refine qe ?_ ?_) <;> intro hc <;> simp only [hc, go_sem, ↓reduceIte, Nat.reduceEqDiff, Nat.reduceAdd, Nat.reduceSub, Nat.reduceMul, Nat.reduceLT, Nat.reduceLeDiff, reduceCtorEq, Int.reduceToNat] <;> (try simp only [qb, qa, decide_eq_true_eq, decide_eq_false_iff_not, Bool.and_eq_true] at hc)) | refine And.intro (by first | assumption | omega | (have := qg (by assumption); omega) | (unfold qp; omega)) ?_ | fail)
  all_goals simp_all [qip]
theorem qtx {l : List N} {f : N → Bool} {i : Nat} (h : i < l.length) : (l.drop i).all f = (f (l.getD i N0) && (l.drop (i + 1)).all f) := by
  rw [q48 h, List.all_cons]

theorem qdj {so : FuncId} {f : N → Bool} {l : List N} (h : ∀ x ∈ l, qbf Tryz.prog so [enc x] (.bool (f x))) : qbf Tryz.prog 74 [.sl 5 (encs l), .fn so [] []] (.bool (l.all f)) := by
  refine qu c0en (by simp) (by simp only [go_sem]) rfl fun hw => ?_
  have hkl : l.length ≤ maxLen := by have := hw.1.1; rwa [qbz] at this
  repeat' (first | refine ql ?_ | refine qk ?_ | ((first | refine qn ?_ | refine qm ?_ | refine qs ?_ | refine qi ?_ | refine qh ?_); simp only [go_sem, ↓reduceIte, Nat.reduceEqDiff, Nat.reduceAdd, Nat.reduceSub, Nat.reduceMul, Nat.reduceLT, Nat.reduceLeDiff, reduceCtorEq, Int.reduceToNat]) | ((first | refine qf ?_ ?_ | refine qe ?_ ?_) <;> intro hc <;> simp only [hc, go_sem, ↓reduceIte, Nat.reduceEqDiff, Nat.reduceAdd, Nat.reduceSub, Nat.reduceMul, Nat.reduceLT, Nat.reduceLeDiff, reduceCtorEq, Int.reduceToNat] <;> (try simp only [qb, qa, decide_eq_true_eq, decide_eq_false_iff_not, Bool.and_eq_true] at hc)) | refine And.intro (by first | assumption | omega | (have := qg (by assumption); omega) | (unfold qp; omega)) ?_ | ((first | simp (disch := omega) only [qr] | simp (disch := omega) only [qbb]); (try simp only [go_sem, ↓reduceIte, Nat.reduceEqDiff, Nat.reduceAdd, Nat.reduceSub, Nat.reduceMul, Nat.reduceLT, Nat.reduceLeDiff, reduceCtorEq, Int.reduceToNat])))
  refine qby (S := Nat) (fun i => i ≤ l.length ∧ (l.drop i).all f = l.all f) (fun i => (⟨[(1, .fn so [] []), (7, .sl 5 (encs l)), (8, .int .i64 l.length), (9, .int .i64 i)], []⟩, [])) (fun i => l.length - i) ?_ fun i hi => ?_
  · refine qbn 0 [] ⟨Nat.zero_le _, rfl⟩ rfl (by simp) ?_ ?_ ?_ <;> (try simp only [go_sem, ↓reduceIte, Nat.reduceEqDiff, Nat.reduceAdd, Nat.reduceSub, Nat.reduceMul, Nat.reduceLT, Nat.reduceLeDiff, reduceCtorEq, Int.reduceToNat]) <;> (try simp (disch := omega) only [qbb])
  · obtain ⟨hi, ha⟩ := hi
    repeat' (first | refine ql ?_ | refine qk ?_ | ((first | refine qn ?_ | refine qm ?_ | refine qs ?_ | refine qi ?_ | refine qh ?_ | refine qc (h _ (qen (by omega))) fun _ => ?_ | refine qd  (h _ (qen (by omega))) ?_); simp only [go_sem, ↓reduceIte, Nat.reduceEqDiff, Nat.reduceAdd, Nat.reduceSub, Nat.reduceMul, Nat.reduceLT, Nat.reduceLeDiff, reduceCtorEq, Int.reduceToNat]) | ((first | refine qf ?_ ?_ | refine qe ?_ ?_) <;> intro hc <;> simp only [hc, go_sem, ↓reduceIte, Nat.reduceEqDiff, Nat.reduceAdd, Nat.reduceSub, Nat.reduceMul, Nat.reduceLT, Nat.reduceLeDiff, reduceCtorEq, Int.reduceToNat] <;> (try simp only [qb, qa, decide_eq_true_eq, decide_eq_false_iff_not, Bool.and_eq_true] at hc)) | refine And.intro (by first | assumption | omega | (have := qg (by assumption); omega) | (unfold qp; omega)) ?_ | ((first | simp (disch := omega) only [qr] | simp (disch := omega) only [qbb]); (try simp only [go_sem, ↓reduceIte, Nat.reduceEqDiff, Nat.reduceAdd, Nat.reduceSub, Nat.reduceMul, Nat.reduceLT, Nat.reduceLeDiff, reduceCtorEq, Int.reduceToNat])))
    · rw [← ha, qtx (by omega), hc]; rfl
    · refine qbn (i + 1) [] ⟨⟨by omega, ?_⟩, by omega⟩ rfl (by simp) ?_ ?_ ?_ <;> (try simp only [go_sem, ↓reduceIte, Nat.reduceEqDiff, Nat.reduceAdd, Nat.reduceSub, Nat.reduceMul, Nat.reduceLT, Nat.reduceLeDiff, reduceCtorEq, Int.reduceToNat]) <;> (try simp (disch := omega) only [qbb])
      rw [← ha, qtx (l := l) (i := i) (by omega), hc, Bool.true_and]
    · rw [← ha, List.drop_of_length_le (by omega)]; rfl

/-! low -/
def yLow (n : N) (fn : FuncId) (asn bd : Code) (ha : qde Tryz.prog 10 asn = some q3m) (hb : qde Tryz.prog 10 bd = some q2p) : Yld Bool where
  m := 5
  hs := fun b => [.blk (nc n), .blk [.bool false], .blk (nc n), .blk [.int .i64 1], .lp (if b then ⟨.done, some .ret, fn, [6, 7].toArray, asn, bd⟩ else ⟨.ready, none, fn, [6, 7].toArray, asn, bd⟩) (qka 10 [(5, .fn 99 [] [.ptr 2 0, .ptr 3 0]), (4, enc n), (2, .ptr 1 0), (1, .ptr 0 0), (0, enc n)])]
  i := 4
  step := fun k l _ => (decide (100 < l), !decide (100 < l))
  len := fun _ => rfl
  bd := fun k => by cases k <;> simp only [go_sem, ↓reduceIte, Nat.reduceEqDiff, Nat.reduceAdd, Nat.reduceSub, Nat.reduceMul, Nat.reduceLT, Nat.reduceLeDiff, reduceCtorEq, Int.reduceToNat]
  lt := by omega
  live := fun b => b = false
  keep := fun s l n _ h => by simpa using h
  app := fun k l x hk => by
    subst hk
    refine qp4 (k := 5) rfl rfl qpg ha hb (by simp) (by simp) (by simp) fun lp => ?_
    repeat' (first | refine ql ?_ | refine qk ?_ | refine qe0 ?_ | ((first | refine qn ?_ | refine qbc (by rfl) ?_ | refine qy ?_ | refine qew ?_ | refine qgh ?_ | refine qm ?_ | refine qs ?_ | refine qi ?_ | refine qh ?_); simp only [go_sem, ↓reduceIte, Nat.reduceEqDiff, Nat.reduceAdd, Nat.reduceSub, Nat.reduceMul, Nat.reduceLT, Nat.reduceLeDiff, reduceCtorEq, Int.reduceToNat]) | ((first | refine qf ?_ ?_ | refine qe ?_ ?_) <;> intro hc <;> simp only [hc, go_sem, ↓reduceIte, Nat.reduceEqDiff, Nat.reduceAdd, Nat.reduceSub, Nat.reduceMul, Nat.reduceLT, Nat.reduceLeDiff, reduceCtorEq, Int.reduceToNat] <;> (try simp only [qb, qa, decide_eq_true_eq, decide_eq_false_iff_not, Bool.and_eq_true] at hc)) | refine And.intro (by first | assumption | omega | (have := qg (by assumption); omega) | (unfold qp; omega)) ?_ | ((first | simp (disch := omega) only [qr] | simp (disch := omega) only [qbb]); (try simp only [go_sem, ↓reduceIte, Nat.reduceEqDiff, Nat.reduceAdd, Nat.reduceSub, Nat.reduceMul, Nat.reduceLT, Nat.reduceLeDiff, reduceCtorEq, Int.reduceToNat])))

def lowF : Bool → Int → N → Bool × Bool := fun _ l _ => (decide (100 < l), !decide (100 < l))
def lowW (n : N) : Bool := (qd8 lowF n 1 false).2
theorem qbey : ∀ n l s, (qd8 lowF n l s).1 = !(qd8 lowF n l s).2 := by
  refine N.ind fun n ih l s => ?_
  rw [qij]
  split
  · rename_i h
    have key : ∀ (r : List N), (∀ x ∈ r, ∀ l s, (qd8 lowF x l s).1 = !(qd8 lowF x l s).2) → ∀ (l : Int) (s : Bool), s = false → (qer lowF l r s).1 = !(qer lowF l r s).2 := by
      intro r
      induction r with
      | nil => intro _ l s hs; subst hs; rfl
      | cons x r ihr =>
        intro hx l s hs
        rw [qer]
        split
        · rename_i h3
          exact ihr (fun x hx' => hx x (by simp [hx'])) l _ (by rw [hx x (by simp), h3]; rfl)
        · rename_i h3
          simp only [Bool.not_eq_true] at h3
          rw [hx x (by simp), h3]
    exact key _ ih _ _ (by simpa [lowF] using h)
  · rename_i h
    simpa [lowF] using h

theorem qu5 (n : N) : qbf Tryz.prog 41 [enc n] (.bool (lowW n)) := by
  refine qu c0eo (by simp) (by simp only [go_sem]) rfl fun hw => ?_
  repeat' (first | refine ql ?_ | refine qk ?_ | ((first | refine qn ?_ | refine qm ?_ | refine qi ?_ | refine qh ?_); simp only [go_sem, ↓reduceIte, Nat.reduceEqDiff, Nat.reduceAdd, Nat.reduceSub, Nat.reduceMul, Nat.reduceLT, Nat.reduceLeDiff, reduceCtorEq, Int.reduceToNat]) | ((first | refine qf ?_ ?_ | refine qe ?_ ?_) <;> intro hc <;> simp only [hc, go_sem, ↓reduceIte, Nat.reduceEqDiff, Nat.reduceAdd, Nat.reduceSub, Nat.reduceMul, Nat.reduceLT, Nat.reduceLeDiff, reduceCtorEq, Int.reduceToNat] <;> (try simp only [qb, qa, decide_eq_true_eq, decide_eq_false_iff_not, Bool.and_eq_true] at hc)) | refine And.intro (by first | assumption | omega | (have := qg (by assumption); omega) | (unfold qp; omega)) ?_ | fail)
  refine qrr (qby2 n 1) (by simp only [go_sem]) ?_
  rintro H1 o ⟨rfl, rfl⟩
  simp only [go_sem, ↓reduceIte, Nat.reduceEqDiff, Nat.reduceAdd, Nat.reduceSub, Nat.reduceMul, Nat.reduceLT, Nat.reduceLeDiff, reduceCtorEq, Int.reduceToNat]
  refine qk (q3e rfl (Nat.zero_le _) fun fn asn bd ha hb => ?_)
  refine VCalls.mono (qb4i (yLow n fn asn bd ha hb) (n := n) (l := 1) (s := false) (p := 2) (q := 3) rfl rfl rfl) ?_
  rintro H1 o ⟨rfl, rfl⟩
  have hlow := qbey n 1 false
  rw [show qd8 (yLow n fn asn bd ha hb).step n 1 false = qd8 lowF n 1 false from rfl, lowW]
  generalize qd8 lowF n 1 false = pq at hlow ⊢
  obtain ⟨p, q⟩ := pq
  simp only at hlow
  subst hlow
  cases q
  · simp only [yLow, Bool.not_false, go_sem, ↓reduceIte, Nat.reduceEqDiff, Nat.reduceAdd, Nat.reduceSub, Nat.reduceMul, Nat.reduceLT, Nat.reduceLeDiff, reduceCtorEq, Int.reduceToNat]
  · simp only [yLow, Bool.not_true, go_sem, ↓reduceIte, Nat.reduceEqDiff, Nat.reduceAdd, Nat.reduceSub, Nat.reduceMul, Nat.reduceLT, Nat.reduceLeDiff, reduceCtorEq, Int.reduceToNat]
    repeat' (first | refine ql ?_ | refine qk ?_ | ((first | refine qn ?_ | refine qm ?_ | refine qi ?_ | refine qh ?_); simp only [go_sem, ↓reduceIte, Nat.reduceEqDiff, Nat.reduceAdd, Nat.reduceSub, Nat.reduceMul, Nat.reduceLT, Nat.reduceLeDiff, reduceCtorEq, Int.reduceToNat]) | ((first | refine qf ?_ ?_ | refine qe ?_ ?_) <;> intro hc <;> simp only [hc, go_sem, ↓reduceIte, Nat.reduceEqDiff, Nat.reduceAdd, Nat.reduceSub, Nat.reduceMul, Nat.reduceLT, Nat.reduceLeDiff, reduceCtorEq, Int.reduceToNat] <;> (try simp only [qb, qa, decide_eq_true_eq, decide_eq_false_iff_not, Bool.and_eq_true] at hc)) | refine And.intro (by first | assumption | omega | (have := qg (by assumption); omega) | (unfold qp; omega)) ?_ | fail)
set_option maxRecDepth 4000

theorem qb1a {i : Nat} (h : i ≤ maxLen) : IntKind.i64.wrap ((i : Int) - 1) = (i : Int) - 1 := by
  unfold maxLen at h
  simp [IntKind.wrap, IntKind.signed, IntKind.bits]
  omega
mutual
def tyW : N → Bool
  | .mk k _ n t ks => if k = 1 then decide (n = 0) && varW t && decide ((ks.length : Int) = 0)
    else if k = 2 ∧ n = 0 then (if t = [45, 62] then decide ((ks.length : Int) = 2) else conW t) && tysW ks else false
def tysW : List N → Bool
  | [] => true
  | x :: r => tyW x && tysW r
end
theorem qxk (l : List N) : tysW l = l.all tyW := by
  induction l with
  | nil => rfl
  | cons x r ih => rw [tysW, ih]; rfl
theorem qb1d (n : N) : tyW n = if n.kind = 1 then decide (n.num = 0) && varW n.text && decide ((n.kids.length : Int) = 0)
    else if n.kind = 2 ∧ n.num = 0 then (if n.text = [45, 62] then decide ((n.kids.length : Int) = 2) else conW n.text) && n.kids.all tyW else false := by
  rw [← qxk]; cases n; rw [tyW]; rfl

theorem qhq : ∀ n, qbf Tryz.prog 132 [enc n] (.bool (tyW n)) := by
  refine N.ind fun n ih => ?_
  refine qu c0eg (by simp) (by simp only [go_sem]) rfl fun hw => ?_
  rw [qb1d]
  repeat' (first | refine ql ?_ | refine qk ?_ | ((first | refine qn ?_ | refine qm ?_ | refine qi ?_ | refine qh ?_ | refine qc (qcc qes _) fun _ => ?_ | refine qc (qdj ih) fun _ => ?_ | refine qc (qet _) fun _ => ?_ | refine qd  (qcc qes _) ?_ | refine qd  (qdj ih) ?_ | refine qd  (qet _) ?_); simp only [go_sem, ↓reduceIte, Nat.reduceEqDiff, Nat.reduceAdd, Nat.reduceSub, Nat.reduceMul, Nat.reduceLT, Nat.reduceLeDiff, reduceCtorEq, Int.reduceToNat]) | ((first | refine qf ?_ ?_ | refine qe ?_ ?_) <;> intro hc <;> simp only [hc, go_sem, ↓reduceIte, Nat.reduceEqDiff, Nat.reduceAdd, Nat.reduceSub, Nat.reduceMul, Nat.reduceLT, Nat.reduceLeDiff, reduceCtorEq, Int.reduceToNat] <;> (try simp only [qb, qa, decide_eq_true_eq, decide_eq_false_iff_not, Bool.and_eq_true] at hc)) | refine And.intro (by first | assumption | omega | (have := qg (by assumption); omega) | (unfold qp; omega)) ?_ | fail)
  all_goals simp_all [qip]

theorem q4v : conW [45, 62] = false := by decide
theorem qbzo {t : List UInt8} (h : conW t = true) : ¬ t = [45, 62] := fun e => by rw [e, q4v] at h; cases h
/-! patterns -/
mutual
def paW : N → Bool
  | .mk k _ n t ks => if k = 11 then decide (n = 0) && varW t && decide ((ks.length : Int) = 0)
    else if k = 12 then decide (t = []) && decide (n = 0) && decide ((ks.length : Int) = 0)
    else if k = 13 then decide (t = []) && decide (0 ≤ n) && decide ((ks.length : Int) = 0)
    else if k = 14 then decide (n = 0) && conW t && pasW ks else false
def pasW : List N → Bool
  | [] => true
  | x :: r => paW x && pasW r
end
theorem qxt (l : List N) : pasW l = l.all paW := by
  induction l with
  | nil => rfl
  | cons x r ih => rw [pasW, ih]; rfl
theorem qbz4 (n : N) : paW n = if n.kind = 11 then decide (n.num = 0) && varW n.text && decide ((n.kids.length : Int) = 0)
    else if n.kind = 12 then decide (n.text = []) && decide (n.num = 0) && decide ((n.kids.length : Int) = 0)
    else if n.kind = 13 then decide (n.text = []) && decide (0 ≤ n.num) && decide ((n.kids.length : Int) = 0)
    else if n.kind = 14 then decide (n.num = 0) && conW n.text && n.kids.all paW else false := by
  rw [← qxt]; cases n; rw [paW]; rfl
theorem qot : ∀ n, qbf Tryz.prog 113 [enc n] (.bool (paW n)) := by
  refine N.ind fun n ih => ?_
  refine qu c0eh (by simp) (by simp only [go_sem]) rfl fun hw => ?_
  rw [qbz4]
  repeat' (first | refine ql ?_ | refine qk ?_ | ((first | refine qn ?_ | refine qm ?_ | refine qi ?_ | refine qh ?_ | refine qc (qcc qes _) fun _ => ?_ | refine qc (qcc qet _) fun _ => ?_ | refine qc (qdj ih) fun _ => ?_ | refine qc (qfa _) fun _ => ?_ | refine qd  (qcc qes _) ?_ | refine qd  (qcc qet _) ?_ | refine qd  (qdj ih) ?_ | refine qd  (qfa _) ?_); simp only [go_sem, ↓reduceIte, Nat.reduceEqDiff, Nat.reduceAdd, Nat.reduceSub, Nat.reduceMul, Nat.reduceLT, Nat.reduceLeDiff, reduceCtorEq, Int.reduceToNat]) | ((first | refine qf ?_ ?_ | refine qe ?_ ?_) <;> intro hc <;> simp only [hc, go_sem, ↓reduceIte, Nat.reduceEqDiff, Nat.reduceAdd, Nat.reduceSub, Nat.reduceMul, Nat.reduceLT, Nat.reduceLeDiff, reduceCtorEq, Int.reduceToNat] <;> (try simp only [qb, qa, decide_eq_true_eq, decide_eq_false_iff_not, Bool.and_eq_true] at hc)) | refine And.intro (by first | assumption | omega | (have := qg (by assumption); omega) | (unfold qp; omega)) ?_ | fail)
  all_goals simp_all [qip, qsl]
/-! predicates, contexts, signatures -/
def prW (n : N) : Bool := decide (n.kind = 3) && decide (n.num = 0) && conW n.text && decide ((n.kids.length : Int) = 1) && tyW (n.kids.getD 0 N0)
theorem qmi (n : N) : qbf Tryz.prog 131 [enc n] (.bool (prW n)) := by
  refine qu c0ei (by simp) (by simp only [go_sem]) rfl fun hw => ?_
  repeat' (first | refine ql ?_ | ((first | refine qn ?_ | refine qm ?_ | refine qc (qcc qet _) fun _ => ?_ | refine qc (qhq _) fun _ => ?_ | refine qd  (qcc qet _) ?_ | refine qd  (qhq _) ?_); simp only [go_sem, ↓reduceIte, Nat.reduceEqDiff, Nat.reduceAdd, Nat.reduceSub, Nat.reduceMul, Nat.reduceLT, Nat.reduceLeDiff, reduceCtorEq, Int.reduceToNat]) | ((first | refine qf ?_ ?_ | refine qe ?_ ?_) <;> intro hc <;> simp only [hc, go_sem, ↓reduceIte, Nat.reduceEqDiff, Nat.reduceAdd, Nat.reduceSub, Nat.reduceMul, Nat.reduceLT, Nat.reduceLeDiff, reduceCtorEq, Int.reduceToNat] <;> (try simp only [qb, qa, decide_eq_true_eq, decide_eq_false_iff_not, Bool.and_eq_true] at hc)) | refine And.intro (by first | assumption | omega | (have := qg (by assumption); omega) | (unfold qp; omega)) ?_ | ((first | simp (disch := omega) only [qr] | simp (disch := omega) only [qbb]); (try simp only [go_sem, ↓reduceIte, Nat.reduceEqDiff, Nat.reduceAdd, Nat.reduceSub, Nat.reduceMul, Nat.reduceLT, Nat.reduceLeDiff, reduceCtorEq, Int.reduceToNat])))
  all_goals simp_all [qip, prW]
def quW (n : N) : Bool := decide (n.kind = 4) && qsl n && decide (0 ≤ (n.kids.length : Int) - 1) && (n.kids.take ((n.kids.length : Int) - 1).toNat).all prW && tyW (n.kids.getD ((n.kids.length : Int) - 1).toNat N0)
theorem qmr (n : N) : qbf Tryz.prog 112 [enc n] (.bool (quW n)) := by
  refine qu c0ej (by simp) (by simp only [go_sem]) rfl fun hw => ?_
  have hkl : n.kids.length ≤ maxLen := ((qtu n).1 hw.1).1
  repeat' (first | refine ql ?_ | ((first | refine qn ?_ | refine qm ?_ | refine qc (qfa _) fun _ => ?_ | refine qc (qdj fun x _ => qmi x) fun _ => ?_ | refine qc (qhq _) fun _ => ?_ | refine qd  (qfa _) ?_ | refine qd  (qdj fun x _ => qmi x) ?_ | refine qd  (qhq _) ?_); simp only [go_sem, ↓reduceIte, Nat.reduceEqDiff, Nat.reduceAdd, Nat.reduceSub, Nat.reduceMul, Nat.reduceLT, Nat.reduceLeDiff, reduceCtorEq, Int.reduceToNat]) | ((first | simp (disch := omega) only [qb1a]); (try simp only [go_sem, ↓reduceIte, Nat.reduceEqDiff, Nat.reduceAdd, Nat.reduceSub, Nat.reduceMul, Nat.reduceLT, Nat.reduceLeDiff, reduceCtorEq, Int.reduceToNat])) | ((first | refine qf ?_ ?_ | refine qe ?_ ?_) <;> intro hc <;> simp only [hc, go_sem, ↓reduceIte, Nat.reduceEqDiff, Nat.reduceAdd, Nat.reduceSub, Nat.reduceMul, Nat.reduceLT, Nat.reduceLeDiff, reduceCtorEq, Int.reduceToNat] <;> (try simp only [qb, qa, decide_eq_true_eq, decide_eq_false_iff_not, Bool.and_eq_true] at hc)) | refine And.intro (by first | assumption | omega | (have := qg (by assumption); omega) | (unfold qp; omega)) ?_ | ((first | simp (disch := omega) only [qr] | simp (disch := omega) only [qbb]); (try simp only [go_sem, ↓reduceIte, Nat.reduceEqDiff, Nat.reduceAdd, Nat.reduceSub, Nat.reduceMul, Nat.reduceLT, Nat.reduceLeDiff, reduceCtorEq, Int.reduceToNat])))
  all_goals first | (simp only [quW, *, decide_true, decide_false, Bool.and_true, Bool.true_and, Bool.and_false, Bool.false_and, Bool.or_true, Bool.true_or, Bool.or_false, Bool.false_or, Bool.not_true, Bool.not_false, if_true, if_false, reduceIte, Int.reduceEq]; done) | (simp_all [quW]; done) | (simp_all [quW]; omega)
def sgW (n : N) : Bool := decide (n.kind = 32) && decide (n.num = 0) && varW n.text && decide ((n.kids.length : Int) = 1) && quW (n.kids.getD 0 N0)
theorem qox (n : N) : qbf Tryz.prog 77 [enc n] (.bool (sgW n)) := by
  refine qu c0ek (by simp) (by simp only [go_sem]) rfl fun hw => ?_
  repeat' (first | refine ql ?_ | ((first | refine qn ?_ | refine qm ?_ | refine qc (qcc qes _) fun _ => ?_ | refine qc (qmr _) fun _ => ?_ | refine qd  (qcc qes _) ?_ | refine qd  (qmr _) ?_); simp only [go_sem, ↓reduceIte, Nat.reduceEqDiff, Nat.reduceAdd, Nat.reduceSub, Nat.reduceMul, Nat.reduceLT, Nat.reduceLeDiff, reduceCtorEq, Int.reduceToNat]) | ((first | refine qf ?_ ?_ | refine qe ?_ ?_) <;> intro hc <;> simp only [hc, go_sem, ↓reduceIte, Nat.reduceEqDiff, Nat.reduceAdd, Nat.reduceSub, Nat.reduceMul, Nat.reduceLT, Nat.reduceLeDiff, reduceCtorEq, Int.reduceToNat] <;> (try simp only [qb, qa, decide_eq_true_eq, decide_eq_false_iff_not, Bool.and_eq_true] at hc)) | refine And.intro (by first | assumption | omega | (have := qg (by assumption); omega) | (unfold qp; omega)) ?_ | ((first | simp (disch := omega) only [qr] | simp (disch := omega) only [qbb]); (try simp only [go_sem, ↓reduceIte, Nat.reduceEqDiff, Nat.reduceAdd, Nat.reduceSub, Nat.reduceMul, Nat.reduceLT, Nat.reduceLeDiff, reduceCtorEq, Int.reduceToNat])))
  all_goals first | (simp only [qip, sgW, *, decide_true, decide_false, Bool.and_true, Bool.true_and, Bool.and_false, Bool.false_and, Bool.or_true, Bool.true_or, Bool.or_false, Bool.false_or, Bool.not_true, Bool.not_false, if_true, if_false, reduceIte, Int.reduceEq]; done) | (simp_all [qip, sgW]; done) | (simp_all [qip, sgW]; omega)
set_option maxRecDepth 4000

/-- Whether a tree is an expression, a binding, an alternative. -/
abbrev T3 := Bool × Bool × Bool
def d3 : T3 × N := ((false, false, false), N0)
mutual
def eba : N → T3
  | .mk k _ n t ks =>
    let l := (ebas ks).zip ks
    (if k = 21 then decide (n = 0) && varW t && decide ((ks.length : Int) = 0)
     else if k = 22 then decide (n = 0) && conW t && decide ((ks.length : Int) = 0)
     else if k = 23 then decide (t = []) && decide (0 ≤ n) && decide ((ks.length : Int) = 0)
     else if k = 24 then decide (t = []) && decide (n = 0) && decide ((ks.length : Int) = 2) && l.all (·.1.1)
     else if k = 25 then decide (n = 0) && varW t && decide ((ks.length : Int) = 1) && (l.getD 0 d3).1.1
     else if k = 26 then decide (t = []) && decide (n = 0) && decide (2 ≤ (ks.length : Int)) && (l.take ((ks.length : Int) - 1).toNat).all (fun p => p.1.2.1 || sgW p.2) && (l.getD ((ks.length : Int) - 1).toNat d3).1.1
     else if k = 27 then decide (t = []) && decide (n = 0) && decide (2 ≤ (ks.length : Int)) && (l.getD 0 d3).1.1 && (l.drop 1).all (·.1.2.2)
     else if k = 28 then decide (t = []) && decide (n = 0) && decide ((ks.length : Int) = 3) && l.all (·.1.1)
     else false,
     decide (k = 31) && decide (n = 0) && varW t && decide ((ks.length : Int) = 1) && (l.getD 0 d3).1.1,
     decide (k = 15) && decide (t = []) && decide (n = 0) && decide ((ks.length : Int) = 2) && paW (l.getD 0 d3).2 && (l.getD 1 d3).1.1)
def ebas : List N → List T3
  | [] => []
  | x :: r => eba x :: ebas r
end
def exW (n : N) : Bool := (eba n).1
def biW (n : N) : Bool := (eba n).2.1
def alW (n : N) : Bool := (eba n).2.2
theorem qr5 (l : List N) : (ebas l).zip l = l.map fun x => (eba x, x) := by
  induction l with
  | nil => rfl
  | cons x r ih => rw [ebas, List.zip_cons_cons, ih]; rfl
theorem qj7 {l : List N} {i : Nat} (h : i < l.length) : (l.map fun x => (eba x, x)).getD i d3 = (eba (l.getD i N0), l.getD i N0) := by
  rw [List.getD_eq_getElem?_getD, List.getElem?_map, List.getElem?_eq_getElem h, List.getD_eq_getElem?_getD, List.getElem?_eq_getElem h]; rfl
theorem qxa {c a b : Bool} (h : c = true → a = b) : (c && a) = (c && b) := by cases c <;> simp_all
theorem qpb (n : N) : exW n = if n.kind = 21 then decide (n.num = 0) && varW n.text && decide ((n.kids.length : Int) = 0)
     else if n.kind = 22 then decide (n.num = 0) && conW n.text && decide ((n.kids.length : Int) = 0)
     else if n.kind = 23 then decide (n.text = []) && decide (0 ≤ n.num) && decide ((n.kids.length : Int) = 0)
     else if n.kind = 24 then decide (n.text = []) && decide (n.num = 0) && decide ((n.kids.length : Int) = 2) && n.kids.all exW
     else if n.kind = 25 then decide (n.num = 0) && varW n.text && decide ((n.kids.length : Int) = 1) && exW (n.kids.getD 0 N0)
     else if n.kind = 26 then decide (n.text = []) && decide (n.num = 0) && decide (2 ≤ (n.kids.length : Int)) && (n.kids.take ((n.kids.length : Int) - 1).toNat).all (fun x => biW x || sgW x) && exW (n.kids.getD ((n.kids.length : Int) - 1).toNat N0)
     else if n.kind = 27 then decide (n.text = []) && decide (n.num = 0) && decide (2 ≤ (n.kids.length : Int)) && exW (n.kids.getD 0 N0) && (n.kids.drop 1).all alW
     else if n.kind = 28 then decide (n.text = []) && decide (n.num = 0) && decide ((n.kids.length : Int) = 3) && n.kids.all exW
     else false := by
  obtain ⟨k, p, m, t, ks⟩ := n
  simp only [exW, eba, N.kind, N.num, N.text, N.kids, qr5, ← List.map_take, ← List.map_drop, List.all_map]
  have h0 : ∀ (c : Int), 1 ≤ c → decide ((ks.length : Int) = c) = true → ((ks.map fun x => (eba x, x)).getD 0 d3).1.1 = (eba (ks.getD 0 N0)).1 := fun c h1 h => by
    simp only [decide_eq_true_eq] at h
    rw [qj7 (by omega)]
  have h2 : decide (2 ≤ (ks.length : Int)) = true → ((ks.map fun x => (eba x, x)).getD 0 d3).1.1 = (eba (ks.getD 0 N0)).1 := fun h => by
    simp only [decide_eq_true_eq] at h
    rw [qj7 (by omega)]
  have h3 : decide (2 ≤ (ks.length : Int)) = true → ((ks.map fun x => (eba x, x)).getD ((ks.length : Int) - 1).toNat d3).1.1 = (eba (ks.getD ((ks.length : Int) - 1).toNat N0)).1 := fun h => by
    simp only [decide_eq_true_eq] at h
    rw [qj7 (by omega)]
  repeat' (refine ite_congr rfl (fun _ => ?_) (fun _ => ?_))
  all_goals first
    | rfl
    | (refine qxa fun h => h0 1 (by omega) ?_; simp only [Bool.and_eq_true] at h; exact h.2)
    | (refine qxa fun h => h3 ?_; simp only [Bool.and_eq_true] at h; exact h.1.2)
    | (refine congrArg (· && _) (qxa fun h => h2 ?_); simp only [Bool.and_eq_true] at h; exact h.2)
theorem qbdb (n : N) : biW n = (decide (n.kind = 31) && decide (n.num = 0) && varW n.text && decide ((n.kids.length : Int) = 1) && exW (n.kids.getD 0 N0)) := by
  obtain ⟨k, p, m, t, ks⟩ := n
  simp only [biW, exW, eba, N.kind, N.num, N.text, N.kids, qr5]
  refine qxa fun h => ?_
  simp only [Bool.and_eq_true, decide_eq_true_eq] at h
  rw [qj7 (by omega)]
theorem qbdn (n : N) : alW n = (decide (n.kind = 15) && decide (n.text = []) && decide (n.num = 0) && decide ((n.kids.length : Int) = 2) && paW (n.kids.getD 0 N0) && exW (n.kids.getD 1 N0)) := by
  obtain ⟨k, p, m, t, ks⟩ := n
  simp only [alW, exW, eba, N.kind, N.num, N.text, N.kids, qr5]
  by_cases h : (ks.length : Int) = 2
  · rw [qj7 (by omega), qj7 (by omega)]; rfl
  · simp [h]

theorem qro {x : N} (h : qbf Tryz.prog 76 [enc x] (.bool (biW x))) : qbf Tryz.prog 75 [enc x] (.bool (biW x || sgW x)) := by
  refine qu c0ec (by simp) (by simp only [go_sem]) rfl fun hw => ?_
  repeat' (first | refine ql ?_ | ((first | refine qn ?_ | refine qm ?_ | refine qc h fun _ => ?_ | refine qc (qox x) fun _ => ?_ | refine qd  h ?_ | refine qd  (qox x) ?_); simp only [go_sem, ↓reduceIte, Nat.reduceEqDiff, Nat.reduceAdd, Nat.reduceSub, Nat.reduceMul, Nat.reduceLT, Nat.reduceLeDiff, reduceCtorEq, Int.reduceToNat]) | ((first | refine qf ?_ ?_ | refine qe ?_ ?_) <;> intro hc <;> simp only [hc, go_sem, ↓reduceIte, Nat.reduceEqDiff, Nat.reduceAdd, Nat.reduceSub, Nat.reduceMul, Nat.reduceLT, Nat.reduceLeDiff, reduceCtorEq, Int.reduceToNat] <;> (try simp only [qb, qa, decide_eq_true_eq, decide_eq_false_iff_not, Bool.and_eq_true] at hc)) | refine And.intro (by first | assumption | omega | (have := qg (by assumption); omega) | (unfold qp; omega)) ?_ | fail)
  all_goals first | (simp only [*, decide_true, decide_false, Bool.and_true, Bool.true_and, Bool.and_false, Bool.false_and, Bool.or_true, Bool.true_or, Bool.or_false, Bool.false_or, Bool.not_true, Bool.not_false, if_true, if_false, reduceIte, Int.reduceEq]; done) | (simp_all []; done) | (simp_all []; omega)

set_option maxHeartbeats 2000000 in
theorem qpq {n : N} (ih : ∀ x ∈ n.kids, qbf Tryz.prog 42 [enc x] (.bool (exW x))) (iha : ∀ x ∈ n.kids, qbf Tryz.prog 78 [enc x] (.bool (alW x))) (ihw : ∀ x ∈ n.kids, qbf Tryz.prog 75 [enc x] (.bool (biW x || sgW x))) :
    qbf Tryz.prog 42 [enc n] (.bool (exW n)) := by
  refine qu c0ed (by simp) (by simp only [go_sem]) rfl fun hw => ?_
  have hkl : n.kids.length ≤ maxLen := ((qtu n).1 hw.1).1
  repeat' (first | refine ql ?_ | refine qk ?_ | ((first | refine qn ?_ | refine qm ?_ | refine qi ?_ | refine qh ?_ | refine qc (qcc qes _) fun _ => ?_ | refine qc (qcc qet _) fun _ => ?_ | refine qc (qfa _) fun _ => ?_ | refine qc (ih _ (qen (by omega))) fun _ => ?_ | refine qc (qdj ih) fun _ => ?_ | refine qc (qdj (f := alW) fun x hx => iha x (List.mem_of_mem_drop hx)) fun _ => ?_ | refine qc (qdj (f := fun x => biW x || sgW x) fun x hx => ihw x (List.mem_of_mem_take hx)) fun _ => ?_ | refine qd  (qcc qes _) ?_ | refine qd  (qcc qet _) ?_ | refine qd  (qfa _) ?_ | refine qd  (ih _ (qen (by omega))) ?_ | refine qd  (qdj ih) ?_ | refine qd  (qdj (f := alW) fun x hx => iha x (List.mem_of_mem_drop hx)) ?_ | refine qd  (qdj (f := fun x => biW x || sgW x) fun x hx => ihw x (List.mem_of_mem_take hx)) ?_); simp only [go_sem, ↓reduceIte, Nat.reduceEqDiff, Nat.reduceAdd, Nat.reduceSub, Nat.reduceMul, Nat.reduceLT, Nat.reduceLeDiff, reduceCtorEq, Int.reduceToNat]) | ((first | simp (disch := omega) only [qb1a]); (try simp only [go_sem, ↓reduceIte, Nat.reduceEqDiff, Nat.reduceAdd, Nat.reduceSub, Nat.reduceMul, Nat.reduceLT, Nat.reduceLeDiff, reduceCtorEq, Int.reduceToNat])) | ((first | refine qf ?_ ?_ | refine qe ?_ ?_) <;> intro hc <;> simp only [hc, go_sem, ↓reduceIte, Nat.reduceEqDiff, Nat.reduceAdd, Nat.reduceSub, Nat.reduceMul, Nat.reduceLT, Nat.reduceLeDiff, reduceCtorEq, Int.reduceToNat] <;> (try simp only [qb, qa, decide_eq_true_eq, decide_eq_false_iff_not, Bool.and_eq_true] at hc)) | refine And.intro (by first | assumption | omega | (have := qg (by assumption); omega) | (unfold qp; omega)) ?_ | ((first | simp (disch := omega) only [qr] | simp (disch := omega) only [qbb]); (try simp only [go_sem, ↓reduceIte, Nat.reduceEqDiff, Nat.reduceAdd, Nat.reduceSub, Nat.reduceMul, Nat.reduceLT, Nat.reduceLeDiff, reduceCtorEq, Int.reduceToNat])))
  all_goals clear ih iha ihw hw hkl
  all_goals rw [qpb n]
  all_goals (try simp only [qip, qsl] at *)
  all_goals first | (simp only [*, decide_true, decide_false, Bool.and_true, Bool.true_and, Bool.and_false, Bool.false_and, Bool.or_true, Bool.true_or, Bool.or_false, Bool.false_or, Bool.not_true, Bool.not_false, if_true, if_false, reduceIte, Int.reduceEq]; done) | (simp_all []; done) | (simp_all []; omega)

theorem qs9 : ∀ n, qbf Tryz.prog 42 [enc n] (.bool (exW n)) ∧ qbf Tryz.prog 76 [enc n] (.bool (biW n)) ∧ qbf Tryz.prog 78 [enc n] (.bool (alW n)) := by
  refine N.ind fun n ih => ⟨qpq (fun x hx => (ih x hx).1) (fun x hx => (ih x hx).2.2) (fun x hx => qro (ih x hx).2.1), ?_, ?_⟩
  · refine qu c0ee (by simp) (by simp only [go_sem]) rfl fun hw => ?_
    rw [qbdb n]
    repeat' (first | refine ql ?_ | ((first | refine qn ?_ | refine qm ?_ | refine qc (qcc qes _) fun _ => ?_ | refine qc (ih _ (qen (by omega))).1 fun _ => ?_ | refine qd  (qcc qes _) ?_ | refine qd  (ih _ (qen (by omega))).1 ?_); simp only [go_sem, ↓reduceIte, Nat.reduceEqDiff, Nat.reduceAdd, Nat.reduceSub, Nat.reduceMul, Nat.reduceLT, Nat.reduceLeDiff, reduceCtorEq, Int.reduceToNat]) | ((first | refine qf ?_ ?_ | refine qe ?_ ?_) <;> intro hc <;> simp only [hc, go_sem, ↓reduceIte, Nat.reduceEqDiff, Nat.reduceAdd, Nat.reduceSub, Nat.reduceMul, Nat.reduceLT, Nat.reduceLeDiff, reduceCtorEq, Int.reduceToNat] <;> (try simp only [qb, qa, decide_eq_true_eq, decide_eq_false_iff_not, Bool.and_eq_true] at hc)) | refine And.intro (by first | assumption | omega | (have := qg (by assumption); omega) | (unfold qp; omega)) ?_ | ((first | simp (disch := omega) only [qr] | simp (disch := omega) only [qbb]); (try simp only [go_sem, ↓reduceIte, Nat.reduceEqDiff, Nat.reduceAdd, Nat.reduceSub, Nat.reduceMul, Nat.reduceLT, Nat.reduceLeDiff, reduceCtorEq, Int.reduceToNat])))
    all_goals first | (simp only [qip, *, decide_true, decide_false, Bool.and_true, Bool.true_and, Bool.and_false, Bool.false_and, Bool.or_true, Bool.true_or, Bool.or_false, Bool.false_or, Bool.not_true, Bool.not_false, if_true, if_false, reduceIte, Int.reduceEq]; done) | (simp_all [qip]; done) | (simp_all [qip]; omega)
  · refine qu c0ef (by simp) (by simp only [go_sem]) rfl fun hw => ?_
    rw [qbdn n]
    repeat' (first | refine ql ?_ | ((first | refine qn ?_ | refine qm ?_ | refine qc (qfa _) fun _ => ?_ | refine qc (qot _) fun _ => ?_ | refine qc (ih _ (qen (by omega))).1 fun _ => ?_ | refine qd  (qfa _) ?_ | refine qd  (qot _) ?_ | refine qd  (ih _ (qen (by omega))).1 ?_); simp only [go_sem, ↓reduceIte, Nat.reduceEqDiff, Nat.reduceAdd, Nat.reduceSub, Nat.reduceMul, Nat.reduceLT, Nat.reduceLeDiff, reduceCtorEq, Int.reduceToNat]) | ((first | refine qf ?_ ?_ | refine qe ?_ ?_) <;> intro hc <;> simp only [hc, go_sem, ↓reduceIte, Nat.reduceEqDiff, Nat.reduceAdd, Nat.reduceSub, Nat.reduceMul, Nat.reduceLT, Nat.reduceLeDiff, reduceCtorEq, Int.reduceToNat] <;> (try simp only [qb, qa, decide_eq_true_eq, decide_eq_false_iff_not, Bool.and_eq_true] at hc)) | refine And.intro (by first | assumption | omega | (have := qg (by assumption); omega) | (unfold qp; omega)) ?_ | ((first | simp (disch := omega) only [qr] | simp (disch := omega) only [qbb]); (try simp only [go_sem, ↓reduceIte, Nat.reduceEqDiff, Nat.reduceAdd, Nat.reduceSub, Nat.reduceMul, Nat.reduceLT, Nat.reduceLeDiff, reduceCtorEq, Int.reduceToNat])))
    all_goals first | (simp only [qsl, *, decide_true, decide_false, Bool.and_true, Bool.true_and, Bool.and_false, Bool.false_and, Bool.or_true, Bool.true_or, Bool.or_false, Bool.false_or, Bool.not_true, Bool.not_false, if_true, if_false, reduceIte, Int.reduceEq]; done) | (simp_all [qsl]; done) | (simp_all [qsl]; omega)


set_option maxRecDepth 4000

theorem q02 (n : N) : qbf Tryz.prog 19 [enc n] (.bool (lowW n && exW n)) := by
  refine qu c0eb (by simp) (by simp only [go_sem]) rfl fun hw => ?_
  repeat' (first | refine ql ?_ | ((first | refine qn ?_ | refine qm ?_ | refine qc (qu5 _) fun _ => ?_ | refine qc (qs9 _).1 fun _ => ?_ | refine qd  (qu5 _) ?_ | refine qd  (qs9 _).1 ?_); simp only [go_sem, ↓reduceIte, Nat.reduceEqDiff, Nat.reduceAdd, Nat.reduceSub, Nat.reduceMul, Nat.reduceLT, Nat.reduceLeDiff, reduceCtorEq, Int.reduceToNat]) | ((first | refine qf ?_ ?_ | refine qe ?_ ?_) <;> intro hc <;> simp only [hc, go_sem, ↓reduceIte, Nat.reduceEqDiff, Nat.reduceAdd, Nat.reduceSub, Nat.reduceMul, Nat.reduceLT, Nat.reduceLeDiff, reduceCtorEq, Int.reduceToNat] <;> (try simp only [qb, qa, decide_eq_true_eq, decide_eq_false_iff_not, Bool.and_eq_true] at hc)) | refine And.intro (by first | assumption | omega | (have := qg (by assumption); omega) | (unfold qp; omega)) ?_ | fail)
  all_goals first | (simp only [*, decide_true, decide_false, Bool.and_true, Bool.true_and, Bool.and_false, Bool.false_and, Bool.or_true, Bool.true_or, Bool.or_false, Bool.false_or, Bool.not_true, Bool.not_false, if_true, if_false, reduceIte, Int.reduceEq]; done) | (simp_all []; done) | (simp_all []; omega)

mutual
def sz : N → Nat
  | .mk _ _ _ _ ks => szs ks + 1
def szs : List N → Nat
  | [] => 0
  | x :: r => sz x + szs r
end
mutual
def dp : N → Nat
  | .mk _ _ _ _ ks => dps ks + 1
def dps : List N → Nat
  | [] => 0
  | x :: r => max (dp x) (dps r)
end
theorem qi1 (n : N) : sz n = szs n.kids + 1 := by cases n; rw [sz]; rfl
theorem q3t (n : N) : dp n = dps n.kids + 1 := by cases n; rw [dp]; rfl
theorem qww : ∀ {l : List N}, (∀ x ∈ l, dp x ≤ sz x) → dps l ≤ szs l
  | [], _ => Nat.le_refl _
  | x :: r, h => by
    have h1 := h x (by simp)
    have h2 := qww (l := r) fun y hy => h y (by simp [hy])
    simp only [dps, szs]; omega
theorem qb69 : ∀ n, dp n ≤ sz n := N.ind fun n ih => by rw [q3t, qi1]; have := qww ih; omega

theorem qlq {z : Int} (h0 : -1 ≤ z) (h1 : z ≤ 1000000000) : IntKind.i64.wrap z = z := by
  simp [IntKind.wrap, IntKind.signed, IntKind.bits]
  omega

theorem q5t : ∀ n, sz n ≤ 1000000 → qvl n = sz n := N.ind fun n ih h => by
  rw [q5m, qi1]
  rw [qi1] at h
  have key : ∀ (l : List N), (∀ x ∈ l, sz x ≤ 1000000 → qvl x = sz x) → ∀ a : Int, 1 ≤ a → a + szs l ≤ 1000001 → qqz a l = a + szs l := by
    intro l
    induction l with
    | nil => intro _ a h0 h1; simp [qqz, szs]
    | cons x r ihr =>
      intro hx a h0 h1
      simp only [qqz, szs] at h1 ⊢
      rw [hx x (by simp) (by omega), qlq (by omega) (by omega), ihr (fun y hy => hx y (by simp [hy])) _ (by omega) (by omega)]
      omega
  rw [key n.kids ih 1 (by omega) (by omega)]
  omega
def szF : Int → Int → N → Int × Bool := fun k _ _ => (IntKind.i64.wrap (k + 1), true)
theorem qbld : ∀ n l (s : Int), 0 ≤ s → s + sz n ≤ 2000000 → qd8 szF n l s = (s + sz n, true) := N.ind fun n ih l s h0 h1 => by
  rw [qij, qi1]
  rw [qi1] at h1
  simp only [szF, if_true]
  have key : ∀ (r : List N), (∀ x ∈ r, ∀ l (s : Int), 0 ≤ s → s + sz x ≤ 2000000 → qd8 szF x l s = (s + sz x, true)) → ∀ l (s : Int), 0 ≤ s → s + szs r ≤ 2000000 → qer szF l r s = (s + szs r, true) := by
    intro r
    induction r with
    | nil => intro _ l s _ _; simp [qer, szs]
    | cons x r ihr =>
      intro hx l s h0 h1
      simp only [qer, szs] at h1 ⊢
      rw [hx x (by simp) _ _ h0 (by omega), if_pos rfl, ihr (fun y hy => hx y (by simp [hy])) _ _ (by omega) (by omega)]
      simp only [Prod.mk.injEq, and_true]; omega
  have := key n.kids ih (IntKind.i64.wrap (l + 1)) (IntKind.i64.wrap (s + 1)) (by rw [qlq (by omega) (by omega)]; omega) (by rw [qlq (by omega) (by omega)]; omega)
  rw [this, qlq (by omega) (by omega)]
  simp only [Prod.mk.injEq, and_true]; omega
theorem qb6x {n : N} (h : sz n ≤ 3000) : (qd8 (fun (k : Int) _ _ => (IntKind.i64.wrap (k + 1), true)) n 1 0).1 = qvl n := by
  show (qd8 szF n 1 0).1 = qvl n
  rw [qbld n 1 0 (by omega) (by omega), q5t n (by omega)]; simp

theorem q35 : ∀ n, sz n ≤ 1000000 → depR n = dp n := N.ind fun n ih h => by
  rw [q1p, q3t]
  rw [qi1] at h
  have key : ∀ (l : List N), (∀ x ∈ l, sz x ≤ 1000000 → depR x = dp x) → szs l ≤ 1000000 → ∀ a : Int, 0 ≤ a → quf a l = max a (dps l) := by
    intro l
    induction l with
    | nil => intro _ _ a h0; simp [quf, dps]; omega
    | cons x r ihr =>
      intro hx hs a h0
      simp only [szs] at hs
      simp only [quf, dps]
      rw [hx x (by simp) (by omega)]
      have := ihr (fun y hy => hx y (by simp [hy])) (by omega)
      split
      · rw [this _ (by omega)]; omega
      · rw [this _ (by omega)]; omega
  have hd := qww (l := n.kids) fun x _ => qb69 x
  rw [key n.kids ih (by omega) 0 (by omega), qlq (by omega) (by omega)]
  omega
def dpF : Int → Int → N → Int × Bool := fun k l _ => (if l > k then l else k, true)
theorem qbka : ∀ n (l s : Int), 0 ≤ l → l + sz n ≤ 2000000 → qd8 dpF n l s = (max s (l + dp n - 1), true) := N.ind fun n ih l s h0 h1 => by
  rw [qij, q3t]
  rw [qi1] at h1
  simp only [dpF, if_true]
  have key : ∀ (r : List N), (∀ x ∈ r, ∀ (l s : Int), 0 ≤ l → l + sz x ≤ 2000000 → qd8 dpF x l s = (max s (l + dp x - 1), true)) → ∀ (l s : Int), 0 ≤ l → l + szs r ≤ 2000000 → l - 1 ≤ s → qer dpF l r s = (max s (l + dps r - 1), true) := by
    intro r
    induction r with
    | nil => intro _ l s _ _ h; simp only [qer, dps, Prod.mk.injEq, and_true]; omega
    | cons x r ihr =>
      intro hx l s h0 h1 h2
      simp only [szs] at h1
      simp only [qer, dps]
      rw [hx x (by simp) _ _ h0 (by omega), if_pos rfl, ihr (fun y hy => hx y (by simp [hy])) _ _ (by omega) (by omega) (by omega)]
      simp only [Prod.mk.injEq, and_true]; omega
  have := key n.kids ih (IntKind.i64.wrap (l + 1)) (if l > s then l else s) (by rw [qlq (by omega) (by omega)]; omega) (by rw [qlq (by omega) (by omega)]; omega) (by rw [qlq (by omega) (by omega)]; split <;> omega)
  rw [this, qlq (by omega) (by omega)]
  simp only [Prod.mk.injEq, and_true]
  split <;> omega
theorem q98 : ∀ n (l : Int) (s : Bool), 0 ≤ l → l + sz n ≤ 2000000 → (qd8 lowF n l s).2 = decide (l + dp n - 1 ≤ 100) := N.ind fun n ih l s h0 h1 => by
  rw [qij, q3t]
  rw [qi1] at h1
  have key : ∀ (r : List N), (∀ x ∈ r, ∀ (l : Int) (s : Bool), 0 ≤ l → l + sz x ≤ 2000000 → (qd8 lowF x l s).2 = decide (l + dp x - 1 ≤ 100)) → ∀ (l : Int) (s : Bool), 0 ≤ l → l + szs r ≤ 2000000 → l - 1 ≤ 100 → (qer lowF l r s).2 = decide (l + dps r - 1 ≤ 100) := by
    intro r
    induction r with
    | nil => intro _ l s _ _ h; simp only [qer, dps]; symm; simp; omega
    | cons x r ihr =>
      intro hx l s h0 h1 h2
      simp only [szs] at h1
      simp only [qer, dps]
      rw [hx x (by simp) _ _ h0 (by omega)]
      split
      · rename_i h3
        simp only [decide_eq_true_eq] at h3
        rw [ihr (fun y hy => hx y (by simp [hy])) _ _ (by omega) (by omega) (by omega)]
        congr 1; simp only [eq_iff_iff]; omega
      · rename_i h3
        simp only [decide_eq_true_eq] at h3
        exact (decide_eq_false (by omega)).symm
  by_cases h2 : (100 : Int) < l
  · simp only [lowF, h2, decide_true, Bool.not_true, Bool.false_eq_true, if_false]
    exact (decide_eq_false (by omega)).symm
  · simp only [lowF, h2, decide_false, Bool.not_false, if_true]
    rw [key n.kids ih _ _ (by rw [qlq (by omega) (by omega)]; omega) (by rw [qlq (by omega) (by omega)]; omega) (by rw [qlq (by omega) (by omega)]; omega), qlq (by omega) (by omega)]
    congr 1; simp only [eq_iff_iff]; omega
end Go.Proofs.YtmekebfgmjaenaaGreat
