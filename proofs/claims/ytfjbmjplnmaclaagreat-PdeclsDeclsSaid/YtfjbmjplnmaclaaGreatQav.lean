/- Texts of this proof, joined. -/
import Derived.Test.YtfjbmjplnmaclaaGreatQak
import Derived.Test.YtfjbmjplnmaclaaGreatQam

/- trees: count, Few, Size, Depth -/
set_option maxRecDepth 4000
namespace Go.Proofs.YtfjbmjplnmaclaaGreat
open Go Go.RowKit Go.V
set_option linter.unusedVariables false
set_option linter.unusedSimpArgs false

/-! count, Few -/
mutual
def cntW : N → Int → Int
 | .mk _ _ _ _ ks, k => qcj6 (IntKind.i64.wrap (k - 1)) ks
def qcj6 : Int → List N → Int
 | a, [] => a
 | a, x :: r => if 0 ≤ a then qcj6 (cntW x a) r else a
end
/-! the references -/
mutual
def qz8 : N → Int
 | .mk _ _ _ _ ks => que 1 ks
def que : Int → List N → Int
 | a, [] => a
 | a, x :: r => que (IntKind.i64.wrap (a + qz8 x)) r
end
theorem qbl8 (n : N) : qz8 n = que 1 n.kids := by cases n; rw [qz8]; rfl
mutual
def depR : N → Int
 | .mk _ _ _ _ ks => IntKind.i64.wrap (qw8 0 ks + 1)
def qw8 : Int → List N → Int
 | a, [] => a
 | a, x :: r => qw8 (if depR x > a then depR x else a) r
end
theorem q9u (n : N) : depR n = IntKind.i64.wrap (qw8 0 n.kids + 1) := by cases n; rw [depR]; rfl
theorem qbb0 : ∀ n, qz Tryz.prog 49 [enc n] (.int .i64 (depR n)) := by
 refine N.ind fun n ih => ?_
 refine qj c0ff (by simp) (by simp only [go_sem]) rfl fun hw => ?_
 have hkl : n.kids.length ≤ maxLen := ((qtd n).1 hw.1).1
 repeat' (first | refine vs_ ?_ | ((first | refine vr_ ?_ | (refine cs_ ?_ ?_ <;> intro hc) | refine cj_ ?_ | simp (disch := omega) only [qh, qs]) <;> (try refine ev_ ?_)) | with_reducible exact ti_)
 refine qbm (S := Nat × Int) (fun s => s.1 ≤ n.kids.length ∧ IntKind.i64.wrap (qw8 s.2 (n.kids.drop s.1) + 1) = depR n) (fun s => (⟨[(1, .ptr 0 0), (3, .int .i64 s.2), (4, .int .i64 s.1)], []⟩, [.blk (enc n).cells])) (fun s => n.kids.length - s.1) ?_ fun s hs => ?_
 ·refine q8 (0, 0) [0] ⟨Nat.zero_le _, (q9u n).symm⟩ rfl (by simp) ?_ ?_ ?_ <;> (try refine ev_ ?_) <;> (try with_reducible exact ti_) <;> (try simp (disch := omega) only [qs, and_true, true_and])
 ·obtain ⟨i, a⟩ := s
  obtain ⟨hi, ha⟩ := hs
  dsimp only at hi ha
  repeat' (first | refine vs_ ?_ | ((first | refine vr_ ?_ | refine qa (ih _ (qgy (by omega))) fun _ => ?_ | (refine cs_ ?_ ?_ <;> intro hc) | refine cj_ ?_ | simp (disch := omega) only [qh, qs]) <;> (try refine ev_ ?_)) | with_reducible exact ti_)
  ·refine q8 (i + 1, if depR (n.kids.getD i N0) > a then depR (n.kids.getD i N0) else a) [0] ⟨⟨by omega, ?_⟩, by omega⟩ rfl (by simp) ?_ ?_ ?_ <;> (try refine ev_ ?_) <;> (try with_reducible exact ti_) <;> (try simp (disch := omega) only [qs, and_true, true_and])
   rw [← ha, q6s (l := n.kids) (i := i) (by omega), qw8]
  ·rw [← ha, show i = n.kids.length by omega, List.drop_length]; rfl
set_option maxRecDepth 4000

structure Yld (α : Type) where
 m : Nat
 hs : α → List Ent
 i : Nat
 step : α → Int → N → α × Bool
 len : ∀ s, (hs s).length = m
 bd : ∀ s, (hs s).all (Ent.bd m) = true
 lt : i < m
 live : α → Prop
 keep : ∀ s l n, live s → (step s l n).2 = true → live (step s l n).1
 app : ∀ s l n, live s → VApp Tryz.prog (hs s) (.opq i) [.int .i64 l, enc n] (fun H' o => H' = hs (step s l n).1 ∧ o = .val (.bool (step s l n).2))

theorem qbt8 {α : Type} (y : Yld α) (s : α) : (y.hs s).length = y.m := y.len s
theorem qck5 {α : Type} (y : Yld α) (s : α) : (y.hs s).all (Ent.bd y.m) = true := y.bd s
theorem qblq {α : Type} (y : Yld α) (s : α) (L : List Ent) : (y.hs s ++ L).take y.m = y.hs s := by rw [← y.len s]; simp
theorem qbsu {α : Type} (y : Yld α) (s : α) : (y.hs s).all (Ent.bd (y.m + 1)) = true := qbo1 (by omega) (y.bd s)
theorem qb5p {α : Type} (y : Yld α) : decide (y.i < y.m + 1) = true := by have := y.lt; simp; omega
attribute [go_sem] qbt8 qck5 qblq qbsu qb5p
section
variable {α : Type} (y : Yld α)
theorem qb18 {s : α} {l : Int} {n : N} {L : List Ent} {Q : List Ent → VO → Prop} (hlv : y.live s) (h : Q (y.hs (y.step s l n).1 ++ L) (.val (.bool (y.step s l n).2))) : VApp Tryz.prog (y.hs s ++ L) (.opq y.i) [.int .i64 l, enc n] Q := by
 refine qbes (y.app s l n hlv) (by rw [y.len]; exact y.bd s) (by rw [y.len]; simpa [AV.bd] using y.lt) (by simp only [go_sem]) ?_
 rintro H1 o ⟨rfl, rfl⟩
 exact ⟨by rw [y.len, y.len], by rw [y.len]; exact y.bd _, rfl, h⟩
theorem q65 {s s' : α} {b : Bool} {l : Int} {n : N} {L : List Ent} {Q : List Ent → VO → Prop} (hc : VCalls Tryz.prog 92 (y.hs s) [enc n, .int .i64 l, .opq y.i] (fun H' o => H' = y.hs s' ∧ o = .val (.bool b))) (h : Q (y.hs s' ++ L) (.val (.bool b))) : VApp Tryz.prog (y.hs s ++ L) (.fn 92 [] []) [enc n, .int .i64 l, .opq y.i] Q := by
 refine qcd (first := []) (caps := []) ?_
 simp only [List.nil_append, List.append_nil]
 have := y.lt
 refine qdj hc (by rw [y.len]; exact y.bd s) (by simp only [go_sem, this]) ?_
 rintro H1 o ⟨rfl, rfl⟩
 exact ⟨by rw [y.len, y.len], by rw [y.len]; exact y.bd _, rfl, h⟩
mutual
def qeo (f : α → Int → N → α × Bool) : N → Int → α → α × Bool
 | .mk k p n t ks, l, s => if (f s l (.mk k p n t ks)).2 then qfi f (IntKind.i64.wrap (l + 1)) ks (f s l (.mk k p n t ks)).1 else ((f s l (.mk k p n t ks)).1, false)
def qfi (f : α → Int → N → α × Bool) : Int → List N → α → α × Bool
 | l, [], s => (s, true)
 | l, x :: r, s => if (qeo f x l s).2 then qfi f l r (qeo f x l s).1 else ((qeo f x l s).1, false)
end
theorem qj3 (f : α → Int → N → α × Bool) (n : N) (l : Int) (s : α) : qeo f n l s = if (f s l n).2 then qfi f (IntKind.i64.wrap (l + 1)) n.kids (f s l n).1 else ((f s l n).1, false) := by cases n; rw [qeo]; rfl

theorem qtx (l : Int) : ∀ (r : List N), (∀ x ∈ r, ∀ l s, y.live s → (qeo y.step x l s).2 = true → y.live (qeo y.step x l s).1) → ∀ s, y.live s → (qfi y.step l r s).2 = true → y.live (qfi y.step l r s).1
 | [], _, s, h, _ => h
 | x :: r, hx, s, h, h2 => by
   rw [qfi] at h2 ⊢
   split at h2
   ·rename_i h3
    rw [if_pos h3]
    exact qtx l r (fun x hx' => hx x (by simp [hx'])) _ (hx x (by simp) l s h h3) h2
   ·cases h2
theorem qba7 : ∀ n l s, y.live s → (qeo y.step n l s).2 = true → y.live (qeo y.step n l s).1 := by
 refine N.ind fun n ih l s h h2 => ?_
 rw [qj3] at h2 ⊢
 split at h2
 ·rename_i h3
  rw [if_pos h3]
  exact qtx y _ n.kids ih _ (y.keep s l n h h3) h2
 ·cases h2

theorem qckj : ∀ n l s, y.live s → VCalls Tryz.prog 92 (y.hs s) [enc n, .int .i64 l, .opq y.i] (fun H' o => H' = y.hs (qeo y.step n l s).1 ∧ o = .val (.bool (qeo y.step n l s).2)) := by
 refine N.ind fun n ih l s hlv => ?_
 have hlen := y.len
 have hlt := y.lt
 refine qyv (by kernel_rfl) fun hw => ?_
 have hkl : n.kids.length ≤ maxLen := ((qtd n).1 hw.1).1
 have hbd : ∀ s, (y.hs s).all (Ent.bd (y.hs s).length) = true := fun s => by rw [y.len]; exact y.bd s
 refine qp c0fb y.m (by rw [hlen]; exact Nat.le_refl _) (by simp) ?_
 repeat' (first | refine vs_ ?_ | ((first | refine vr_ ?_ | refine qb18 y hlv ?_ | (refine cs_ ?_ ?_ <;> intro hc) | refine cj_ ?_ | simp (disch := omega) only [qh, qs]) <;> (try refine ev_ ?_)) | with_reducible exact ti_)
 ·rw [qj3, if_neg (by simpa using hc)]
  exact ⟨rfl, rfl⟩
 ·refine qbm (S := Nat × α) (fun s' => y.live s'.2 ∧ s'.1 ≤ n.kids.length ∧ qfi y.step (IntKind.i64.wrap (l + 1)) (n.kids.drop s'.1) s'.2 = qeo y.step n l s) (fun s' => (⟨[(1, .int .i64 l), (2, .opq y.i), (15, .sl 5 (encs n.kids)), (16, .int .i64 n.kids.length), (17, .int .i64 s'.1)], []⟩, y.hs s'.2 ++ [.blk (enc n).cells])) (fun s => n.kids.length - s.1) ?_ fun s' hs' => ?_
  ·refine q11 (0, (y.step s l n).1) [] ⟨y.keep s l n hlv (by simpa using hc), Nat.zero_le _, ?_⟩ ?_ ?_ ?_ ?_ ?_ ?_ <;> (try refine ev_ ?_) <;> (try with_reducible exact ti_) <;> (try simp (disch := omega) only [qs, and_true, true_and])
   rw [qj3, if_pos (by simpa using hc)]
  ·obtain ⟨i, a⟩ := s'
   obtain ⟨hla, hi, ha⟩ := hs'
   dsimp only at hi ha hla
   have hstep : i < n.kids.length → qeo y.step n l s = if (qeo y.step (n.kids.getD i N0) (IntKind.i64.wrap (l + 1)) a).2 then qfi y.step (IntKind.i64.wrap (l + 1)) (n.kids.drop (i + 1)) (qeo y.step (n.kids.getD i N0) (IntKind.i64.wrap (l + 1)) a).1 else ((qeo y.step (n.kids.getD i N0) (IntKind.i64.wrap (l + 1)) a).1, false) := fun h => by
    rw [← ha, q6s (l := n.kids) (i := i) h, qfi]
   repeat' (first | refine vs_ ?_ | ((first | refine vr_ ?_ | refine q65 y (ih _ (qgy (by omega)) _ _ hla) ?_ | (refine cs_ ?_ ?_ <;> intro hc) | refine cj_ ?_ | simp (disch := omega) only [qh, qs]) <;> (try refine ev_ ?_)) | with_reducible exact ti_)
   ·rw [hstep (by omega), if_neg (by simpa using hc)]
    exact ⟨rfl, rfl⟩
   ·refine q11 (i + 1, (qeo y.step (n.kids.getD i N0) (IntKind.i64.wrap (l + 1)) a).1) [.blk (enc (n.kids.getD i N0)).cells] ⟨⟨qba7 y _ _ _ hla (by simpa using hc), by omega, ?_⟩, by omega⟩ ?_ ?_ ?_ ?_ ?_ ?_ <;> (try refine ev_ ?_) <;> (try with_reducible exact ti_) <;> (try simp (disch := omega) only [qs, and_true, true_and])
    rw [hstep (by omega), if_pos (by simpa using hc)]
   ·rw [← ha, show i = n.kids.length by omega, List.drop_length]
    exact ⟨rfl, rfl⟩

theorem qbl5 {s s' : α} {b : Bool} {l : Int} {n : N} {Q : List Ent → VO → Prop} (hc : VCalls Tryz.prog 92 (y.hs s) [enc n, .int .i64 l, .opq y.i] (fun H' o => H' = y.hs s' ∧ o = .val (.bool b))) (h : Q (y.hs s') (.val (.bool b))) : VApp Tryz.prog (y.hs s) (.fn 92 [] []) [enc n, .int .i64 l, .opq y.i] Q := by
 have := q65 y (L := []) (Q := Q) hc (by simpa using h)
 simpa using this

theorem qcgw {n : N} {l : Int} {s : α} {p q : Nat} (hlv : y.live s) (hp : ent (y.hs s) p = .blk (nc n)) (hq : ent (y.hs s) q = .blk [.int .i64 l]) : VCalls Tryz.prog 91 (y.hs s) [.opq y.i, .ptr p 0, .ptr q 0] (fun H' o => H' = y.hs (qeo y.step n l s).1 ∧ o = .val (.tup [])) := by
 refine qp c0fc y.m (by rw [y.len]; exact Nat.le_refl _) (by simp) ?_
 have ht : ∀ s, (y.hs s).take y.m = y.hs s := fun s => by rw [← y.len s]; simp
 refine q83 ?_
 simp only [go_sem, hp, hq, ↓reduceIte, Nat.reduceEqDiff, Nat.reduceAdd, Nat.reduceSub, Nat.reduceMul, Nat.reduceLT, Nat.reduceLeDiff, reduceCtorEq, Int.reduceToNat]
 refine qbl5 y (qckj y _ _ _ hlv) ?_
 simp only [go_sem, ht, ↓reduceIte, Nat.reduceEqDiff, Nat.reduceAdd, Nat.reduceSub, Nat.reduceMul, Nat.reduceLT, Nat.reduceLeDiff, reduceCtorEq, Int.reduceToNat]
end

theorem qckb (n : N) (l : Int) : VCalls Tryz.prog 50 [] [enc n, .int .i64 l] (fun H o => H = [.blk (enc n).cells, .blk [.int .i64 l]] ∧ o = .val (.fn 91 [] [.ptr 0 0, .ptr 1 0])) := by
 refine qp c0fd 2 (by simp) (by simp) ?_
 repeat' (first | refine vs_ ?_ | ((first | refine vr_ ?_ | (refine cs_ ?_ ?_ <;> intro hc) | refine cj_ ?_ | fail) <;> (try refine ev_ ?_)) | with_reducible exact ti_)

/-! Size -/
/-! Depth -/
def qbmt (n : N) (fn : FuncId) (asn bd : Code) (ha : qdl Tryz.prog 13 asn = some q89) (hb : qdl Tryz.prog 13 bd = some q8x) : Yld Int where
 m := 5
 hs := fun k => [.blk (nc n), .blk [.int .i64 k], .blk (nc n), .blk [.int .i64 1], .lp ⟨.ready, none, fn, [7, 8].toArray, asn, bd⟩ (ql3 13 [(6, .fn 91 [] [.ptr 2 0, .ptr 3 0]), (5, enc n), (3, .ptr 1 0), (2, .int .i64 0), (1, .ptr 0 0), (0, enc n)])]
 i := 4
 step := fun k l _ => (if l > k then l else k, true)
 len := fun _ => rfl
 bd := fun k => by (refine ev_ ?_; (try with_reducible exact ti_))
 lt := by omega
 live := fun _ => True
 keep := fun _ _ _ _ _ => trivial
 app := fun k l x _ => by
  refine qu0 (k := 5) rfl rfl qqu ha hb (by simp) (by simp) (by simp) fun lp => ?_
  repeat' (first | refine vs_ ?_ | ((first | refine vr_ ?_ | (refine cs_ ?_ ?_ <;> intro hc) | refine cj_ ?_ | simp (disch := omega) only [qh, qs]) <;> (try refine ev_ ?_)) | with_reducible exact ti_)

theorem qbb6 (n : N) : qz Tryz.prog 33 [enc n] (.int .i64 (qeo (fun (k : Int) l _ => (if l > k then l else k, true)) n 1 0).1) := by
 refine qj c0fe (by simp) (by simp only [go_sem]) rfl fun hw => ?_
 repeat' (first | refine vs_ ?_ | ((first | refine vr_ ?_ | (refine cs_ ?_ ?_ <;> intro hc) | refine cj_ ?_ | fail) <;> (try refine ev_ ?_)) | with_reducible exact ti_)
 refine qw0 (qckb n 1) (by simp only [go_sem]) ?_
 rintro H1 o ⟨rfl, rfl⟩
 (refine ev_ ?_; (try with_reducible exact ti_))
 refine qu6 (q8j rfl (Nat.zero_le _) fun fn asn bd ha hb => ?_)
 refine VCalls.mono (qcgw (qbmt n fn asn bd ha hb) (n := n) (l := 1) (s := 0) (p := 2) (q := 3) trivial rfl rfl) ?_
 rintro H1 o ⟨rfl, rfl⟩
 simp only [qbmt, go_sem, ↓reduceIte]
 repeat' (first | refine vs_ ?_ | ((first | refine vr_ ?_ | (refine cs_ ?_ ?_ <;> intro hc) | refine cj_ ?_ | fail) <;> (try refine ev_ ?_)) | with_reducible exact ti_)
set_option maxRecDepth 4000

mutual
def qclk : N → N → Bool
 | .mk k _ n t ks, .mk k' _ n' t' ks' => decide (k = k') && decide (t = t') && decide (n = n') && qtz ks ks'
def qtz : List N → List N → Bool
 | [], [] => true
 | x :: r, y :: r' => qclk x y && qtz r r'
 | _, _ => false
end
theorem q4p : ∀ {l l' : List N}, l.length ≠ l'.length → qtz l l' = false
 | [], [], h => absurd rfl h
 | [], y :: r', _ => by rw [qtz] <;> simp
 | x :: r, [], _ => by rw [qtz] <;> simp
 | x :: r, y :: r', h => by rw [qtz, q4p (l := r) (l' := r') (by simpa using h)]; simp
mutual
def qyt : N → N → Bool
 | .mk k p n t ks, .mk k' p' n' t' ks' => decide (p = p') && decide (k = k') && decide (t = t') && decide (n = n') && qf0 ks ks'
def qf0 : List N → List N → Bool
 | [], [] => true
 | x :: r, y :: r' => qyt x y && qf0 r r'
 | _, _ => false
end
theorem qj7 (a b : N) : qyt a b = (decide (a.pos = b.pos) && decide (a.kind = b.kind) && decide (a.text = b.text) && decide (a.num = b.num) && qf0 a.kids b.kids) := by cases a; cases b; rw [qyt]; rfl
theorem qte : ∀ {l l' : List N}, l.length ≠ l'.length → qf0 l l' = false
 | [], [], h => absurd rfl h
 | [], y :: r', _ => by rw [qf0] <;> simp
 | x :: r, [], _ => by rw [qf0] <;> simp
 | x :: r, y :: r', h => by rw [qf0, qte (l := r) (l' := r') (by simpa using h)]; simp
theorem qsp {l l' : List N} {i : Nat} (h : i < l.length) (h' : i < l'.length) : qf0 (l.drop i) (l'.drop i) = (qyt (l.getD i N0) (l'.getD i N0) && qf0 (l.drop (i + 1)) (l'.drop (i + 1))) := by
 rw [q6s h, q6s h', qf0]
theorem q53 {l l' : List N} {i : Nat} (h : l.length ≤ i) (h' : l'.length ≤ i) : qf0 (l.drop i) (l'.drop i) = true := by
 rw [List.drop_of_length_le h, List.drop_of_length_le h', qf0]
theorem qbh1 {a b : N} {i : Nat} (h0 : a.pos = b.pos) (h1 : a.kind = b.kind) (h2 : a.text = b.text) (h3 : a.num = b.num) (ha : qf0 (a.kids.drop i) (b.kids.drop i) = qf0 a.kids b.kids) : qyt a b = qf0 (a.kids.drop i) (b.kids.drop i) := by
 rw [ha, qj7]; simp [h0, h1, h2, h3]
theorem qux : ∀ a b, qz Tryz.prog 8 [enc a, enc b] (.bool (qyt a b)) := by
 refine N.ind fun a ih b => ?_
 refine qj c0fa (by simp) (by simp only [go_sem]) rfl fun hw => ?_
 have hkl : a.kids.length ≤ maxLen := ((qtd a).1 hw.1).1
 repeat' (first | refine vs_ ?_ | ((first | refine vr_ ?_ | (refine cs_ ?_ ?_ <;> intro hc) | refine cj_ ?_ | simp (disch := omega) only [qh, qs]) <;> (try refine ev_ ?_)) | with_reducible exact ti_)
 ·rw [qj7]; simp [*]
 ·rw [qj7]; simp [*]
 ·rw [qj7]; simp [*]
 ·rw [qj7]; simp [*]
 ·rw [qj7, qte (by omega)]; simp
 rename_i h0 h1 h2 h3
 refine qbm (S := Nat) (fun i => i ≤ a.kids.length ∧ qf0 (a.kids.drop i) (b.kids.drop i) = qf0 a.kids b.kids) (fun i => (⟨[(2, .ptr 0 0), (3, .ptr 1 0), (5, .int .i64 i)], []⟩, [.blk (nc a), .blk (nc b)])) (fun i => a.kids.length - i) ?_ fun i hi => ?_
 ·refine q8 0 [0, 1] ⟨Nat.zero_le _, rfl⟩ rfl (by simp) ?_ ?_ ?_ <;> (try refine ev_ ?_) <;> (try with_reducible exact ti_) <;> (try simp (disch := omega) only [qs, and_true, true_and])
 ·obtain ⟨hi, ha⟩ := hi
  have hf := qbh1 h0 h1 h2 h3 ha
  repeat' (first | refine vs_ ?_ | ((first | refine vr_ ?_ | refine qa (ih _ (qgy (by omega)) _) fun _ => ?_ | refine qb (ih _ (qgy (by omega)) _) ?_ | (refine cs_ ?_ ?_ <;> intro hc) | refine cj_ ?_ | simp (disch := omega) only [qh, qs]) <;> (try refine ev_ ?_)) | with_reducible exact ti_)
  ·rw [hf, qsp (by omega) (by omega), hc]; rfl
  ·refine q8 (i + 1) [0, 1] ⟨⟨by omega, ?_⟩, by omega⟩ rfl (by simp) ?_ ?_ ?_ <;> (try refine ev_ ?_) <;> (try with_reducible exact ti_) <;> (try simp (disch := omega) only [qs, and_true, true_and])
   rw [← ha, qsp (l := a.kids) (l' := b.kids) (i := i) (by omega) (by omega), hc, Bool.true_and]
  ·rw [hf, q53 (by omega) (by omega)]

/-! Strip -/
theorem qe (l : List N) (x : N) : encs l ++ [enc x] = encs (l ++ [x]) := by rw [qer, qer]; simp
end Go.Proofs.YtfjbmjplnmaclaaGreat
