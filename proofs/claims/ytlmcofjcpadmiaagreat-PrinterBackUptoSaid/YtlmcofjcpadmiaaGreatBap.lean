/- Texts of this proof, joined. -/
import Derived.Test.YtlmcofjcpadmiaaGreatBal
import Derived.Test.YtlmcofjcpadmiaaGreatBao
import Derived.Test.YtlmcofjcpadmiaaGreatBaj

/- trees: count, Few, Size, Depth -/
set_option maxRecDepth 4000
namespace Go.Proofs.YtlmcofjcpadmiaaGreat
open Go Go.RowKit Go.V
set_option linter.unusedVariables false
set_option linter.unusedSimpArgs false

/-! count, Few -/
mutual
def cntW : N → Int → Int
 | .mk _ _ _ _ ks, k => qj2 (IntKind.i64.wrap (k - 1)) ks
def qj2 : Int → List N → Int
 | a, [] => a
 | a, x :: r => if 0 ≤ a then qj2 (cntW x a) r else a
end
theorem qzy (n : N) (k : Int) : cntW n k = qj2 (IntKind.i64.wrap (k - 1)) n.kids := by cases n; rw [cntW]; rfl
theorem q06 {a : Int} (h : a < 0) (l : List N) : qj2 a l = a := by
 cases l with
 | nil => rfl
 | cons x r => rw [qj2, if_neg (by omega)]
theorem qbkz : ∀ n k, ql Tryz.prog 32 [enc n, .int .i64 k] (.int .i64 (cntW n k)) := by
 refine N.ind fun n ih k => ?_
 refine qg c0cb (by simp) (by simp only [go_sem]) rfl fun hw => ?_
 have hkl : n.kids.length ≤ maxLen := ((qii n).1 hw.1).1
 repeat' (first | refine vs_ ?_ | ((first | refine vr_ ?_ | (refine cs_ ?_ ?_ <;> intro hc) | refine cj_ ?_ | simp (disch := omega) only [qb, qi]) <;> (try refine ev_ ?_)) | with_reducible exact ti_)
 refine qch (S := Nat × Int) (fun s => s.1 ≤ n.kids.length ∧ qj2 s.2 (n.kids.drop s.1) = cntW n k) (fun s => (⟨[(1, .int .i64 s.2), (2, .ptr 0 0), (5, .int .i64 s.1)], []⟩, [.blk (enc n).cells])) (fun s => n.kids.length - s.1) ?_ fun s hs => ?_
 ·refine qbj (0, IntKind.i64.wrap (k - 1)) [0] ⟨Nat.zero_le _, (qzy n k).symm⟩ rfl (by simp) ?_ ?_ ?_ <;> (refine ev_ ?_; (try with_reducible exact ti_))
 ·obtain ⟨i, a⟩ := s
  obtain ⟨hi, ha⟩ := hs
  dsimp only at hi ha
  repeat' (first | refine vs_ ?_ | ((first | refine vr_ ?_ | refine qa (ih _ (qf (by omega)) _) fun _ => ?_ | (refine cs_ ?_ ?_ <;> intro hc) | refine cj_ ?_ | simp (disch := omega) only [qb, qi]) <;> (try refine ev_ ?_)) | with_reducible exact ti_)
  ·refine qbj (i + 1, cntW (n.kids.getD i N0) a) [0] ⟨⟨by omega, ?_⟩, by omega⟩ rfl (by simp) ?_ ?_ ?_ <;> (try refine ev_ ?_) <;> (try with_reducible exact ti_) <;> (try simp (disch := omega) only [qi, and_true, true_and])
   rw [← ha, qvo (l := n.kids) (i := i) (by omega), qj2, if_pos (by assumption)]
  ·rw [← ha, q06 (by omega)]
  ·rw [← ha, show i = n.kids.length by omega, List.drop_length]; rfl

def fewW (n : N) : Bool := decide (0 ≤ cntW n 3000)
theorem few7 (n : N) : ql Tryz.prog 7 [enc n] (.int .i64 (if fewW n then 1 else 0)) := by
 refine qg c0cc (by simp) (by simp only [go_sem]) rfl fun hw => ?_
 repeat' (first | refine vs_ ?_ | ((first | refine vr_ ?_ | refine qa (qbkz _ _) fun _ => ?_ | (refine cs_ ?_ ?_ <;> intro hc) | refine cj_ ?_ | fail) <;> (try refine ev_ ?_)) | with_reducible exact ti_)
 ·rw [if_neg (by simp [fewW]; omega)]
 ·rw [if_pos (by simp [fewW]; omega)]

/-! the references -/
mutual
def qun : N → Int
 | .mk _ _ _ _ ks => qoh 1 ks
def qoh : Int → List N → Int
 | a, [] => a
 | a, x :: r => qoh (IntKind.i64.wrap (a + qun x)) r
end
theorem q7g (n : N) : qun n = qoh 1 n.kids := by cases n; rw [qun]; rfl
mutual
def depR : N → Int
 | .mk _ _ _ _ ks => IntKind.i64.wrap (qx7 0 ks + 1)
def qx7 : Int → List N → Int
 | a, [] => a
 | a, x :: r => qx7 (if depR x > a then depR x else a) r
end
theorem qbwa (n : N) : depR n = IntKind.i64.wrap (qx7 0 n.kids + 1) := by cases n; rw [depR]; rfl
set_option maxRecDepth 4000

structure Yld (α : Type) where
 m : Nat
 hs : α → List Ent
 i : Nat
 step : α → Int → N → α × Bool
 len : ∀ s, (hs s).length = m
 bd : ∀ s, (hs s).all (Ent.bd m) = true
 lt : i < m
 live : α → Prop
 keep : ∀ s l n, live s → (step s l n).2 = true → live (step s l n).1
 app : ∀ s l n, live s → VApp Tryz.prog (hs s) (.opq i) [.int .i64 l, enc n] (fun H' o => H' = hs (step s l n).1 ∧ o = .val (.bool (step s l n).2))

theorem qbkk {α : Type} (y : Yld α) (s : α) : (y.hs s).length = y.m := y.len s
theorem qb0f {α : Type} (y : Yld α) (s : α) : (y.hs s).all (Ent.bd y.m) = true := y.bd s
theorem q8q {α : Type} (y : Yld α) (s : α) (L : List Ent) : (y.hs s ++ L).take y.m = y.hs s := by rw [← y.len s]; simp
theorem qbom {α : Type} (y : Yld α) (s : α) : (y.hs s).all (Ent.bd (y.m + 1)) = true := qbha (by omega) (y.bd s)
theorem qbia {α : Type} (y : Yld α) : decide (y.i < y.m + 1) = true := by have := y.lt; simp; omega
attribute [go_sem] qbkk qb0f q8q qbom qbia
section
variable {α : Type} (y : Yld α)
theorem qbrx {s : α} {l : Int} {n : N} {L : List Ent} {Q : List Ent → VO → Prop} (hlv : y.live s) (h : Q (y.hs (y.step s l n).1 ++ L) (.val (.bool (y.step s l n).2))) : VApp Tryz.prog (y.hs s ++ L) (.opq y.i) [.int .i64 l, enc n] Q := by
 refine q9c (y.app s l n hlv) (by rw [y.len]; exact y.bd s) (by rw [y.len]; simpa [AV.bd] using y.lt) (by simp only [go_sem]) ?_
 rintro H1 o ⟨rfl, rfl⟩
 exact ⟨by rw [y.len, y.len], by rw [y.len]; exact y.bd _, rfl, h⟩
theorem q04 {s s' : α} {b : Bool} {l : Int} {n : N} {L : List Ent} {Q : List Ent → VO → Prop} (hc : VCalls Tryz.prog 141 (y.hs s) [enc n, .int .i64 l, .opq y.i] (fun H' o => H' = y.hs s' ∧ o = .val (.bool b))) (h : Q (y.hs s' ++ L) (.val (.bool b))) : VApp Tryz.prog (y.hs s ++ L) (.fn 141 [] []) [enc n, .int .i64 l, .opq y.i] Q := by
 refine qeq (first := []) (caps := []) ?_
 simp only [List.nil_append, List.append_nil]
 have := y.lt
 refine qh6 hc (by rw [y.len]; exact y.bd s) (by simp only [go_sem, this]) ?_
 rintro H1 o ⟨rfl, rfl⟩
 exact ⟨by rw [y.len, y.len], by rw [y.len]; exact y.bd _, rfl, h⟩
mutual
def qc0 (f : α → Int → N → α × Bool) : N → Int → α → α × Bool
 | .mk k p n t ks, l, s => if (f s l (.mk k p n t ks)).2 then qdi f (IntKind.i64.wrap (l + 1)) ks (f s l (.mk k p n t ks)).1 else ((f s l (.mk k p n t ks)).1, false)
def qdi (f : α → Int → N → α × Bool) : Int → List N → α → α × Bool
 | l, [], s => (s, true)
 | l, x :: r, s => if (qc0 f x l s).2 then qdi f l r (qc0 f x l s).1 else ((qc0 f x l s).1, false)
end
theorem qgu (f : α → Int → N → α × Bool) (n : N) (l : Int) (s : α) : qc0 f n l s = if (f s l n).2 then qdi f (IntKind.i64.wrap (l + 1)) n.kids (f s l n).1 else ((f s l n).1, false) := by cases n; rw [qc0]; rfl

theorem qo4 (l : Int) : ∀ (r : List N), (∀ x ∈ r, ∀ l s, y.live s → (qc0 y.step x l s).2 = true → y.live (qc0 y.step x l s).1) → ∀ s, y.live s → (qdi y.step l r s).2 = true → y.live (qdi y.step l r s).1
 | [], _, s, h, _ => h
 | x :: r, hx, s, h, h2 => by
   rw [qdi] at h2 ⊢
   split at h2
   ·rename_i h3
    rw [if_pos h3]
    exact qo4 l r (fun x hx' => hx x (by simp [hx'])) _ (hx x (by simp) l s h h3) h2
   ·cases h2
theorem q2o : ∀ n l s, y.live s → (qc0 y.step n l s).2 = true → y.live (qc0 y.step n l s).1 := by
 refine N.ind fun n ih l s h h2 => ?_
 rw [qgu] at h2 ⊢
 split at h2
 ·rename_i h3
  rw [if_pos h3]
  exact qo4 y _ n.kids ih _ (y.keep s l n h h3) h2
 ·cases h2

theorem qbz3 : ∀ n l s, y.live s → VCalls Tryz.prog 141 (y.hs s) [enc n, .int .i64 l, .opq y.i] (fun H' o => H' = y.hs (qc0 y.step n l s).1 ∧ o = .val (.bool (qc0 y.step n l s).2)) := by
 refine N.ind fun n ih l s hlv => ?_
 have hlen := y.len
 have hlt := y.lt
 refine qsa (by kernel_rfl) fun hw => ?_
 have hkl : n.kids.length ≤ maxLen := ((qii n).1 hw.1).1
 have hbd : ∀ s, (y.hs s).all (Ent.bd (y.hs s).length) = true := fun s => by rw [y.len]; exact y.bd s
 refine qk c0bx y.m (by rw [hlen]; exact Nat.le_refl _) (by simp) ?_
 repeat' (first | refine vs_ ?_ | ((first | refine vr_ ?_ | refine qbrx y hlv ?_ | (refine cs_ ?_ ?_ <;> intro hc) | refine cj_ ?_ | simp (disch := omega) only [qb, qi]) <;> (try refine ev_ ?_)) | with_reducible exact ti_)
 ·rw [qgu, if_neg (by simpa using hc)]
  exact ⟨rfl, rfl⟩
 ·refine qch (S := Nat × α) (fun s' => y.live s'.2 ∧ s'.1 ≤ n.kids.length ∧ qdi y.step (IntKind.i64.wrap (l + 1)) (n.kids.drop s'.1) s'.2 = qc0 y.step n l s) (fun s' => (⟨[(1, .int .i64 l), (2, .opq y.i), (15, .sl 5 (encs n.kids)), (16, .int .i64 n.kids.length), (17, .int .i64 s'.1)], []⟩, y.hs s'.2 ++ [.blk (enc n).cells])) (fun s => n.kids.length - s.1) ?_ fun s' hs' => ?_
  ·refine qxb (0, (y.step s l n).1) [] ⟨y.keep s l n hlv (by simpa using hc), Nat.zero_le _, ?_⟩ ?_ ?_ ?_ ?_ ?_ ?_ <;> (try refine ev_ ?_) <;> (try with_reducible exact ti_) <;> (try simp (disch := omega) only [qi, and_true, true_and])
   rw [qgu, if_pos (by simpa using hc)]
  ·obtain ⟨i, a⟩ := s'
   obtain ⟨hla, hi, ha⟩ := hs'
   dsimp only at hi ha hla
   have hstep : i < n.kids.length → qc0 y.step n l s = if (qc0 y.step (n.kids.getD i N0) (IntKind.i64.wrap (l + 1)) a).2 then qdi y.step (IntKind.i64.wrap (l + 1)) (n.kids.drop (i + 1)) (qc0 y.step (n.kids.getD i N0) (IntKind.i64.wrap (l + 1)) a).1 else ((qc0 y.step (n.kids.getD i N0) (IntKind.i64.wrap (l + 1)) a).1, false) := fun h => by
    rw [← ha, qvo (l := n.kids) (i := i) h, qdi]
   repeat' (first | refine vs_ ?_ | ((first | refine vr_ ?_ | refine q04 y (ih _ (qf (by omega)) _ _ hla) ?_ | (refine cs_ ?_ ?_ <;> intro hc) | refine cj_ ?_ | simp (disch := omega) only [qb, qi]) <;> (try refine ev_ ?_)) | with_reducible exact ti_)
   ·rw [hstep (by omega), if_neg (by simpa using hc)]
    exact ⟨rfl, rfl⟩
   ·refine qxb (i + 1, (qc0 y.step (n.kids.getD i N0) (IntKind.i64.wrap (l + 1)) a).1) [.blk (enc (n.kids.getD i N0)).cells] ⟨⟨q2o y _ _ _ hla (by simpa using hc), by omega, ?_⟩, by omega⟩ ?_ ?_ ?_ ?_ ?_ ?_ <;> (try refine ev_ ?_) <;> (try with_reducible exact ti_) <;> (try simp (disch := omega) only [qi, and_true, true_and])
    rw [hstep (by omega), if_pos (by simpa using hc)]
   ·rw [← ha, show i = n.kids.length by omega, List.drop_length]
    exact ⟨rfl, rfl⟩

theorem q81 {s s' : α} {b : Bool} {l : Int} {n : N} {Q : List Ent → VO → Prop} (hc : VCalls Tryz.prog 141 (y.hs s) [enc n, .int .i64 l, .opq y.i] (fun H' o => H' = y.hs s' ∧ o = .val (.bool b))) (h : Q (y.hs s') (.val (.bool b))) : VApp Tryz.prog (y.hs s) (.fn 141 [] []) [enc n, .int .i64 l, .opq y.i] Q := by
 have := q04 y (L := []) (Q := Q) hc (by simpa using h)
 simpa using this

theorem qb2u {n : N} {l : Int} {s : α} {p q : Nat} (hlv : y.live s) (hp : ent (y.hs s) p = .blk (nc n)) (hq : ent (y.hs s) q = .blk [.int .i64 l]) : VCalls Tryz.prog 140 (y.hs s) [.opq y.i, .ptr p 0, .ptr q 0] (fun H' o => H' = y.hs (qc0 y.step n l s).1 ∧ o = .val (.tup [])) := by
 refine qk c0by y.m (by rw [y.len]; exact Nat.le_refl _) (by simp) ?_
 have ht : ∀ s, (y.hs s).take y.m = y.hs s := fun s => by rw [← y.len s]; simp
 refine qoy ?_
 simp only [go_sem, hp, hq, ↓reduceIte, Nat.reduceEqDiff, Nat.reduceAdd, Nat.reduceSub, Nat.reduceMul, Nat.reduceLT, Nat.reduceLeDiff, reduceCtorEq, Int.reduceToNat]
 refine q81 y (qbz3 y _ _ _ hlv) ?_
 simp only [go_sem, ht, ↓reduceIte, Nat.reduceEqDiff, Nat.reduceAdd, Nat.reduceSub, Nat.reduceMul, Nat.reduceLT, Nat.reduceLeDiff, reduceCtorEq, Int.reduceToNat]
end

theorem qb0t (n : N) (l : Int) : VCalls Tryz.prog 88 [] [enc n, .int .i64 l] (fun H o => H = [.blk (enc n).cells, .blk [.int .i64 l]] ∧ o = .val (.fn 140 [] [.ptr 0 0, .ptr 1 0])) := by
 refine qk c0bz 2 (by simp) (by simp) ?_
 repeat' (first | refine vs_ ?_ | ((first | refine vr_ ?_ | (refine cs_ ?_ ?_ <;> intro hc) | refine cj_ ?_ | fail) <;> (try refine ev_ ?_)) | with_reducible exact ti_)

/-! Size -/
/-! Depth -/
def qbco (n : N) (fn : FuncId) (asn bd : Code) (ha : qcl Tryz.prog 13 asn = some q4x) (hb : qcl Tryz.prog 13 bd = some q3u) : Yld Int where
 m := 5
 hs := fun k => [.blk (nc n), .blk [.int .i64 k], .blk (nc n), .blk [.int .i64 1], .lp ⟨.ready, none, fn, [7, 8].toArray, asn, bd⟩ (qic 13 [(6, .fn 140 [] [.ptr 2 0, .ptr 3 0]), (5, enc n), (3, .ptr 1 0), (2, .int .i64 0), (1, .ptr 0 0), (0, enc n)])]
 i := 4
 step := fun k l _ => (if l > k then l else k, true)
 len := fun _ => rfl
 bd := fun k => by (refine ev_ ?_; (try with_reducible exact ti_))
 lt := by omega
 live := fun _ => True
 keep := fun _ _ _ _ _ => trivial
 app := fun k l x _ => by
  refine qom (k := 5) rfl rfl qml ha hb (by simp) (by simp) (by simp) fun lp => ?_
  repeat' (first | refine vs_ ?_ | ((first | refine vr_ ?_ | (refine cs_ ?_ ?_ <;> intro hc) | refine cj_ ?_ | simp (disch := omega) only [qb, qi]) <;> (try refine ev_ ?_)) | with_reducible exact ti_)

theorem qj5 (n : N) : ql Tryz.prog 56 [enc n] (.int .i64 (qc0 (fun (k : Int) l _ => (if l > k then l else k, true)) n 1 0).1) := by
 refine qg c0ca (by simp) (by simp only [go_sem]) rfl fun hw => ?_
 repeat' (first | refine vs_ ?_ | ((first | refine vr_ ?_ | (refine cs_ ?_ ?_ <;> intro hc) | refine cj_ ?_ | fail) <;> (try refine ev_ ?_)) | with_reducible exact ti_)
 refine qqa (qb0t n 1) (by simp only [go_sem]) ?_
 rintro H1 o ⟨rfl, rfl⟩
 (refine ev_ ?_; (try with_reducible exact ti_))
 refine qpx (q10 rfl (Nat.zero_le _) fun fn asn bd ha hb => ?_)
 refine VCalls.mono (qb2u (qbco n fn asn bd ha hb) (n := n) (l := 1) (s := 0) (p := 2) (q := 3) trivial rfl rfl) ?_
 rintro H1 o ⟨rfl, rfl⟩
 simp only [qbco, go_sem, ↓reduceIte]
 repeat' (first | refine vs_ ?_ | ((first | refine vr_ ?_ | (refine cs_ ?_ ?_ <;> intro hc) | refine cj_ ?_ | fail) <;> (try refine ev_ ?_)) | with_reducible exact ti_)
set_option maxRecDepth 4000

mutual
def ql2 : N → N → Bool
 | .mk k _ n t ks, .mk k' _ n' t' ks' => decide (k = k') && decide (t = t') && decide (n = n') && qdw ks ks'
def qdw : List N → List N → Bool
 | [], [] => true
 | x :: r, y :: r' => ql2 x y && qdw r r'
 | _, _ => false
end
theorem qh0 (a b : N) : ql2 a b = (decide (a.kind = b.kind) && decide (a.text = b.text) && decide (a.num = b.num) && qdw a.kids b.kids) := by cases a; cases b; rw [ql2]; rfl
theorem qou : ∀ {l l' : List N}, l.length ≠ l'.length → qdw l l' = false
 | [], [], h => absurd rfl h
 | [], y :: r', _ => by rw [qdw] <;> simp
 | x :: r, [], _ => by rw [qdw] <;> simp
 | x :: r, y :: r', h => by rw [qdw, qou (l := r) (l' := r') (by simpa using h)]; simp
theorem qmm {l l' : List N} {i : Nat} (h : i < l.length) (h' : i < l'.length) : qdw (l.drop i) (l'.drop i) = (ql2 (l.getD i N0) (l'.getD i N0) && qdw (l.drop (i + 1)) (l'.drop (i + 1))) := by
 rw [qvo h, qvo h', qdw]
theorem qxr {l l' : List N} {i : Nat} (h : l.length ≤ i) (h' : l'.length ≤ i) : qdw (l.drop i) (l'.drop i) = true := by
 rw [List.drop_of_length_le h, List.drop_of_length_le h', qdw]

theorem q6l {a b : N} {i : Nat} (h1 : a.kind = b.kind) (h2 : a.text = b.text) (h3 : a.num = b.num) (ha : qdw (a.kids.drop i) (b.kids.drop i) = qdw a.kids b.kids) : ql2 a b = qdw (a.kids.drop i) (b.kids.drop i) := by
 rw [ha, qh0]; simp [h1, h2, h3]

theorem qkd : ∀ a b, ql Tryz.prog 23 [enc a, enc b] (.bool (ql2 a b)) := by
 refine N.ind fun a ih b => ?_
 refine qg c0bw (by simp) (by simp only [go_sem]) rfl fun hw => ?_
 have hkl : a.kids.length ≤ maxLen := ((qii a).1 hw.1).1
 repeat' (first | refine vs_ ?_ | ((first | refine vr_ ?_ | (refine cs_ ?_ ?_ <;> intro hc) | refine cj_ ?_ | simp (disch := omega) only [qb, qi]) <;> (try refine ev_ ?_)) | with_reducible exact ti_)
 ·rw [qh0]; simp [*]
 ·rw [qh0]; simp [*]
 ·rw [qh0]; simp [*]
 ·rw [qh0, qou (by omega)]; simp
 rename_i h1 h2 h3
 refine qch (S := Nat) (fun i => i ≤ a.kids.length ∧ qdw (a.kids.drop i) (b.kids.drop i) = qdw a.kids b.kids) (fun i => (⟨[(2, .ptr 0 0), (3, .ptr 1 0), (36, .int .i64 a.kids.length), (37, .int .i64 i)], []⟩, [.blk (nc a), .blk (nc b)])) (fun i => a.kids.length - i) ?_ fun i hi => ?_
 ·refine qbj 0 [0, 1] ⟨Nat.zero_le _, rfl⟩ rfl (by simp) ?_ ?_ ?_ <;> (try refine ev_ ?_) <;> (try with_reducible exact ti_) <;> (try simp (disch := omega) only [qi, and_true, true_and])
 ·obtain ⟨hi, ha⟩ := hi
  have hf := q6l h1 h2 h3 ha
  repeat' (first | refine vs_ ?_ | ((first | refine vr_ ?_ | refine qa (ih _ (qf (by omega)) _) fun _ => ?_ | refine qe (ih _ (qf (by omega)) _) ?_ | (refine cs_ ?_ ?_ <;> intro hc) | refine cj_ ?_ | simp (disch := omega) only [qb, qi]) <;> (try refine ev_ ?_)) | with_reducible exact ti_)
  ·rw [hf, qmm (by omega) (by omega), hc]; rfl
  ·refine qbj (i + 1) [0, 1] ⟨⟨by omega, ?_⟩, by omega⟩ rfl (by simp) ?_ ?_ ?_ <;> (try refine ev_ ?_) <;> (try with_reducible exact ti_) <;> (try simp (disch := omega) only [qi, and_true, true_and])
   rw [← ha, qmm (l := a.kids) (l' := b.kids) (i := i) (by omega) (by omega), hc, Bool.true_and]
  ·rw [hf, qxr (by omega) (by omega)]

/-! Strip -/
mutual
def qq : N → N
 | .mk k _ n t ks => .mk k 0 n t (qio ks)
def qio : List N → List N
 | [] => []
 | x :: r => qq x :: qio r
end
theorem qhn (n : N) : qq n = .mk n.kind 0 n.num n.text (qio n.kids) := by cases n; rw [qq]; rfl
theorem qfb (l : List N) : qio l = l.map qq := by
 induction l with
 | nil => rfl
 | cons x r ih => rw [qio, ih]; rfl

theorem qbmd {l : List N} {i : Nat} (h : i < l.length) : l.take (i + 1) = l.take i ++ [l.getD i N0] := by
 rw [List.take_add_one, List.getD_eq_getElem?_getD, List.getElem?_eq_getElem h]; rfl
theorem qr (l : List N) (x : N) : encs l ++ [enc x] = encs (l ++ [x]) := by rw [qdk, qdk]; simp
set_option maxRecDepth 4000

def qob (c : Int) : Bool := decide (97 ≤ c) && decide (c ≤ 122) || decide (c = 95)
def qlz (c : Int) : Bool := decide (65 ≤ c) && decide (c ≤ 90)
def qb1 (c : Int) : Bool := decide (48 ≤ c) && decide (c ≤ 57)

theorem qnk (c : Int) : ql Tryz.prog 142 [.int .u8 c] (.bool (qob c)) := by
 refine qg c0cd (by simp) (by simp only [go_sem]) rfl fun hw => ?_
 repeat' (first | refine vs_ ?_ | ((first | refine vr_ ?_ | (refine cs_ ?_ ?_ <;> intro hc) | refine cj_ ?_ | fail) <;> (try refine ev_ ?_)) | with_reducible exact ti_)
 all_goals simp [qob, *]
theorem qna (c : Int) : ql Tryz.prog 145 [.int .u8 c] (.bool (qlz c)) := by
 refine qg c0ce (by simp) (by simp only [go_sem]) rfl fun hw => ?_
 repeat' (first | refine vs_ ?_ | ((first | refine vr_ ?_ | (refine cs_ ?_ ?_ <;> intro hc) | refine cj_ ?_ | fail) <;> (try refine ev_ ?_)) | with_reducible exact ti_)
 all_goals simp [qlz, *]
def onW (c : Int) : Bool := qob c || qlz c || qb1 c || decide (c = 39)
def onsW (l : List UInt8) : Bool := l.all fun c => onW c.toNat
theorem qi0 {l : List UInt8} {i : Nat} (h : i < l.length) : l.drop i = l.getD i 0 :: l.drop (i + 1) := by
 rw [List.drop_eq_getElem_cons h, List.getD_eq_getElem?_getD, List.getElem?_eq_getElem h]; rfl
theorem qmy {l : List UInt8} {i : Nat} (h : i < l.length) : onsW (l.drop i) = (onW (l.getD i 0).toNat && onsW (l.drop (i + 1))) := by
 rw [qi0 h]; rfl
theorem qo5 (l : List UInt8) : ql Tryz.prog 143 [.str l] (.bool (onsW l)) := by
 refine qg c0cf (by simp) (by simp only [go_sem]) rfl fun hw => ?_
 have hl : l.length ≤ maxLen := hw.1
 repeat' (first | refine vs_ ?_ | ((first | refine vr_ ?_ | (refine cs_ ?_ ?_ <;> intro hc) | refine cj_ ?_ | simp (disch := omega) only [qb, qi]) <;> (try refine ev_ ?_)) | with_reducible exact ti_)
 refine qch (S := Nat) (fun i => i ≤ l.length ∧ onsW (l.drop i) = onsW l) (fun i => (⟨[(0, .str l), (6, .int .i64 l.length), (7, .int .i64 i)], []⟩, [])) (fun i => l.length - i) ?_ fun i hi => ?_
 ·refine qbj 0 [] ⟨Nat.zero_le _, rfl⟩ rfl (by simp) ?_ ?_ ?_ <;> (try refine ev_ ?_) <;> (try with_reducible exact ti_) <;> (try simp (disch := omega) only [qi, and_true, true_and])
 ·obtain ⟨hi, ha⟩ := hi
  repeat' (first | refine vs_ ?_ | ((first | refine vr_ ?_ | refine qa (qnk _) fun _ => ?_ | refine qa (qna _) fun _ => ?_ | (refine cs_ ?_ ?_ <;> intro hc) | refine cj_ ?_ | simp (disch := omega) only [qb, qi]) <;> (try refine ev_ ?_)) | with_reducible exact ti_)
  all_goals first
   | (refine qbj (i + 1) [] ⟨⟨by omega, ?_⟩, by omega⟩ rfl (by simp) ?_ ?_ ?_ <;> (try refine ev_ ?_) <;> (try with_reducible exact ti_) <;> (try simp (disch := omega) only [qi, and_true, true_and])
      rw [← ha, qmy (l := l) (i := i) (by omega)]
      simp_all [onW, qb1]
      try omega)
   | (rw [← ha, show i = l.length by omega, List.drop_length]; rfl)
   | (rw [← ha, qmy (l := l) (i := i) (by omega)]
      simp_all [onW, qb1]
      try omega)

def wordsW : List (List UInt8) := [[100, 97, 116, 97], [99, 108, 97, 115, 115], [105, 110, 115, 116, 97, 110, 99, 101], [119, 104, 101, 114, 101], [108, 101, 116], [105, 110], [99, 97, 115, 101], [111, 102], [105, 102], [116, 104, 101, 110], [101, 108, 115, 101]]
def resW (l : List UInt8) : Bool := wordsW.contains l
theorem qzj : (wordsW.map AV.str).length = 11 := rfl
theorem q2t {i : Nat} (h : i < 11) : (wordsW.map AV.str).getD i .junk = .str (wordsW.getD i []) := by
 have h' : i < wordsW.length := h
 rw [List.getD_eq_getElem?_getD, List.getElem?_map, List.getD_eq_getElem?_getD, List.getElem?_eq_getElem h']; rfl
theorem qox {i : Nat} (h : i < 11) : wordsW.drop i = wordsW.getD i [] :: wordsW.drop (i + 1) := by
 have h' : i < wordsW.length := h
 rw [List.drop_eq_getElem_cons h', List.getD_eq_getElem?_getD, List.getElem?_eq_getElem h']; rfl
theorem qik (l : List UInt8) : ql Tryz.prog 144 [.str l] (.bool (resW l)) := by
 refine qg c0cg (by simp) (by simp only [go_sem]) rfl fun hw => ?_
 repeat' (first | refine vs_ ?_ | ((first | refine vr_ ?_ | (refine cs_ ?_ ?_ <;> intro hc) | refine cj_ ?_ | simp (disch := omega) only [qb, qi]) <;> (try refine ev_ ?_)) | with_reducible exact ti_)
 refine qch (S := Nat) (fun i => i ≤ 11 ∧ (wordsW.drop i).contains l = resW l) (fun i => (⟨[(0, .str l), (3, .bool false), (6, .agg (wordsW.map AV.str)), (7, .int .i64 i)], []⟩, [])) (fun i => 11 - i) ?_ fun i hi => ?_
 ·refine qbj 0 [] ⟨Nat.zero_le _, rfl⟩ rfl (by simp) ?_ ?_ ?_ <;> (try refine ev_ ?_) <;> (try with_reducible exact ti_) <;> (try simp (disch := omega) only [qi, and_true, true_and])
  exact ⟨rfl, rfl⟩
 ·obtain ⟨hi, ha⟩ := hi
  repeat' (first | refine vs_ ?_ | ((first | refine vr_ ?_ | (refine cs_ ?_ ?_ <;> intro hc) | refine cj_ ?_ | simp (disch := omega) only [qb, qi]) <;> (try refine ev_ ?_)) | with_reducible exact ti_)
  ·simp (disch := omega) only [qzj, q2t, Nat.mul_one]
   refine ⟨by omega, ?_⟩
   repeat' (first | refine vs_ ?_ | ((first | refine vr_ ?_ | (refine cs_ ?_ ?_ <;> intro hc) | refine cj_ ?_ | simp (disch := omega) only [qb, qi]) <;> (try refine ev_ ?_)) | with_reducible exact ti_)
   ·refine qbj (i + 1) [] ⟨⟨by omega, ?_⟩, by omega⟩ rfl (by simp) ?_ ?_ ?_ <;> (try refine ev_ ?_) <;> (try with_reducible exact ti_) <;> (try simp (disch := omega) only [qi, and_true, true_and])
    ·rw [← ha, qox (i := i) (by omega), List.contains_cons]
     rw [show (l == wordsW.getD i []) = false by simpa using fun h => hc h.symm]; simp
    ·have : i < maxLen := by unfold maxLen; omega
     rw [qi this]
     exact ⟨⟨rfl, rfl⟩, rfl⟩
   ·rw [← ha, qox (i := i) (by omega), List.contains_cons, show (l == wordsW.getD i []) = true by simpa using hc.symm]; rfl
  ·rw [← ha, show i = 11 by omega]; rfl
def conW (l : List UInt8) : Bool := decide (l ≠ []) && qlz (l.getD 0 0).toNat && onsW l
theorem qef (l : List UInt8) : ql Tryz.prog 91 [.str l] (.bool (conW l)) := by
 refine qg c0ch (by simp) (by simp only [go_sem]) rfl fun hw => ?_
 have hl : l.length ≤ maxLen := hw.1
 repeat' (first | refine vs_ ?_ | ((first | refine vr_ ?_ | refine qa (qo5 _) fun _ => ?_ | refine qa (qna _) fun _ => ?_ | (refine cs_ ?_ ?_ <;> intro hc) | refine cj_ ?_ | simp (disch := omega) only [qb, qi]) <;> (try refine ev_ ?_)) | with_reducible exact ti_)
 all_goals simp_all [conW]
theorem qzh {l : List UInt8} (h : ¬ l = []) : onsW l = (onW (l.getD 0 0).toNat && onsW (l.drop 1)) := qmy (l := l) (i := 0) (qmj h)
def varW (l : List UInt8) : Bool := decide (l ≠ []) && decide (l ≠ [95]) && qob (l.getD 0 0).toNat && onsW l && !resW l
theorem qhx (l : List UInt8) : ql Tryz.prog 90 [.str l] (.bool (varW l)) := by
 refine qg c0ci (by simp) (by simp only [go_sem]) rfl fun hw => ?_
 have hl : l.length ≤ maxLen := hw.1
 repeat' (first | refine vs_ ?_ | ((first | refine vr_ ?_ | refine qa (qo5 _) fun _ => ?_ | refine qa (qnk _) fun _ => ?_ | refine qa (qik _) fun _ => ?_ | (refine cs_ ?_ ?_ <;> intro hc) | refine cj_ ?_ | simp (disch := omega) only [qb, qi]) <;> (try refine ev_ ?_)) | with_reducible exact ti_)
 all_goals simp_all [varW]
end Go.Proofs.YtlmcofjcpadmiaaGreat
