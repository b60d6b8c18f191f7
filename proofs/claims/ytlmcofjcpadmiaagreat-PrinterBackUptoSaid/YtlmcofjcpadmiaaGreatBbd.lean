/- Texts of this proof, joined. -/
import Derived.Test.YtlmcofjcpadmiaaGreatBat
import Derived.Test.YtlmcofjcpadmiaaGreatBav
import Derived.Test.YtlmcofjcpadmiaaGreatBbc
import Derived.Test.YtlmcofjcpadmiaaGreatBba

/- trees that are written: the words of what is written (plain) -/
namespace Go.Proofs.YtlmcofjcpadmiaaGreat
open Go Go.RowKit Go.V
set_option linter.unusedVariables false
set_option linter.unusedSimpArgs false

def tokG : Nat → List UInt8 → Option (List T)
 | 0, _ => none
 | f + 1, l => if l = [] then some [] else if (qb4 l).2 = 0 then (tokG f ((l.drop (qb4 l).1.text.length).drop (qb3 (l.drop (qb4 l).1.text.length)))).map ((qb4 l).1 :: ·) else none
def tokW (s : List UInt8) : Option (List T) := tokG (s.length + 1) (s.drop (qb3 s))
theorem qnn : ∀ (f g : Nat) (l : List UInt8), l.length < f → l.length < g → tokG f l = tokG g l
 | 0, g, l, h, _ => by omega
 | f + 1, 0, l, _, h => by omega
 | f + 1, g + 1, l, h1, h2 => by
   rw [tokG, tokG]
   by_cases hl : l = []
   ·rw [if_pos hl, if_pos hl]
   rw [if_neg hl, if_neg hl]
   by_cases he : (qb4 l).2 = 0
   ·rw [if_pos he, if_pos he]
    have h0 := qtj hl he
    have h3 := qsg l
    have h4 := List.length_pos_iff.2 hl
    rw [qnn f g _ (by rw [List.length_drop, List.length_drop]; omega) (by rw [List.length_drop, List.length_drop]; omega)]
   ·rw [if_neg he, if_neg he]
theorem q33 {s : List UInt8} {f : Nat} (h : s.length < f) : tokG f (s.drop (qb3 s)) = tokW s := qnn _ _ _ (by rw [List.length_drop]; omega) (by rw [List.length_drop]; omega)
theorem qyp (l : List UInt8) : bare (qb4 l).1 = (qb4 l).1 := by
 unfold qb4
 split
 ·rfl
 ·split
  ·rfl
  ·split <;> rfl
theorem qww {s : List UInt8} : ∀ (f k : Nat) (ts : List T), k ≤ s.length → tokG f (s.drop k) = some ts → (lexF f s k).2.2 = 0 ∧ (lexF f s k).1.map bare = ts
 | 0, k, ts, _, h => by cases h
 | f + 1, k, ts, hk, h => by
   rw [tokG] at h
   rw [lexF]
   by_cases hl : s.drop k = []
   ·rw [if_pos hl] at h
    have := congrArg List.length hl
    rw [List.length_drop, List.length_nil] at this
    rw [if_neg (by omega)]
    simp only [Option.some.injEq] at h
    subst h
    exact ⟨rfl, rfl⟩
   ·rw [if_neg hl] at h
    have hlt : k < s.length := by
     have := List.length_pos_iff.2 hl
     rw [List.length_drop] at this; omega
    rw [if_pos hlt]
    by_cases he : (qb4 (s.drop k)).2 = 0
    ·rw [if_pos he] at h
     rw [if_pos he]
     obtain ⟨r, h1, h2⟩ := Option.map_eq_some_iff.1 h
     have hK : ((s.drop k).drop (qb4 (s.drop k)).1.text.length).drop (qb3 ((s.drop k).drop (qb4 (s.drop k)).1.text.length)) = s.drop (lexK s k) := by
      have e : (s.drop k).drop (qb4 (s.drop k)).1.text.length = s.drop (lexN s k) := by rw [List.drop_drop]; rfl
      rw [e, List.drop_drop]; rfl
     rw [hK] at h1
     obtain ⟨h3, h4⟩ := qww f (lexK s k) r (qvq hk) h1
     rw [appR, if_pos h3]
     refine ⟨h3, ?_⟩
     dsimp only
     rw [List.map_append, h4, ← h2]
     show bare (lexT s k) :: r = _
     rw [← qyp (s.drop k)]
     rfl
    ·rw [if_neg he] at h; cases h
theorem q6y {s : List UInt8} {ts : List T} (h : tokW s = some ts) : (lexG s (qb3 s)).2.2 = 0 ∧ (lexG s (qb3 s)).1.map bare = ts := by
 have := qww (s.length + 1) (qb3 s) ts (qqy s) h
 rw [lexG, qiw (s.length - qb3 s) (s.length + 1) _ (Nat.le_refl _) (by omega)]
 exact this
theorem qrn : ∀ (f : Nat) (l : List UInt8) (ts : List T), tokG f l = some ts → ∀ t ∈ ts, t.kind ≠ 0
 | 0, l, ts, h => by cases h
 | f + 1, l, ts, h => by
   rw [tokG] at h
   split at h
   ·simp only [Option.some.injEq] at h; subst h; intro t ht; cases ht
   ·split at h
    ·rename_i he
     obtain ⟨r, h1, h2⟩ := Option.map_eq_some_iff.1 h
     subst h2
     intro t ht
     rcases List.mem_cons.1 ht with rfl | ht
     ·unfold qb4 at he ⊢
      split
      ·exact fun e => by cases e
      ·split
       ·show qyb _ ≠ 0
        unfold qyb
        repeat' split
        all_goals decide
       ·split
        ·rename_i h1 h2 h3
         rw [if_neg h1, if_neg h2, if_pos h3] at he
         simp at he
        ·exact fun e => by cases e
     ·exact qrn f _ r h1 t ht
    ·cases h
theorem qyj {l : List T} {t : T} (hl : ∀ u ∈ l, u.kind ≠ 0) (ht : t.kind = 0) : qe7 (l ++ [t]) = l := by
 induction l with
 | nil => simp [qe7, ht]
 | cons u r ih => rw [List.cons_append, qe7, if_neg (hl u (by simp)), ih (fun v hv => hl v (by simp [hv]))]
theorem qbqn {s : List UInt8} {ts : List T} (hs : s.length ≤ 1000000) (h : tokW s = some ts) : (lexV s).2.2 = 0 ∧ (remT (newK (lexV s).1)).map bare = ts := by
 obtain ⟨h1, h2⟩ := q6y h
 rw [qu7 (by omega) h1]
 refine ⟨rfl, ?_⟩
 have hk : ∀ u ∈ (lexG s (qb3 s)).1, u.kind ≠ 0 := fun u hu => by
  have h3 : bare u ∈ ts := by rw [← h2]; exact List.mem_map_of_mem hu
  have h4 := qrn _ _ _ h (bare u) h3
  exact h4
 show ((newK _).l.drop 0).map bare = ts
 rw [List.drop_zero]
 show (qe7 ((lexG s (qb3 s)).1 ++ [_])).map bare = ts
 rw [qyj hk rfl, h2]

/-! one word behind the other -/
def bnd (r : List UInt8) : Prop := onW ((r.getD 0 0).toNat : Int) = false
theorem qbth : tokW [] = some [] := rfl
theorem q0p {c : UInt8} {r : List UInt8} (h : qc7 c.toNat = true) : tokW (c :: r) = tokW r := by
 rw [← q33 (s := r) (f := (c :: r).length + 1) (by simp; omega)]
 show tokG _ ((c :: r).drop (qb3 (c :: r))) = _
 rw [qui h, show 1 + qb3 r = qb3 r + 1 by omega, List.drop_succ_cons]
theorem qlr {w r : List UInt8} {t : T} (hs : qb3 (w ++ r) = 0) (hw : w ≠ []) (ht : qb4 (w ++ r) = (t, 0)) (hl : t.text.length = w.length) : tokW (w ++ r) = (tokW r).map (t :: ·) := by
 rw [tokW, hs, List.drop_zero, tokG, if_neg (by simp [hw]), ht, if_pos rfl]
 dsimp only
 rw [hl, List.drop_left, q33]
 have := List.length_pos_iff.2 hw
 rw [List.length_append]; omega
theorem qrm {f : Int → Bool} {w r : List UInt8} (h : w.all (fun c => f c.toNat) = true) (hr : f ((r.getD 0 0).toNat) = false) : qbo f (w ++ r) = w.length := by
 induction w with
 | nil => exact qrb hr
 | cons c w ih =>
   simp only [List.all_cons, Bool.and_eq_true] at h
   rw [List.cons_append, qu3 h.1, ih h.2]; rfl
theorem qf3 {w r : List UInt8} (h : w ≠ []) : (w ++ r).getD 0 0 = w.getD 0 0 := by cases w with | nil => exact absurd rfl h | cons _ _ => rfl
theorem qtk {l : List UInt8} (h : onW (l.getD 0 0).toNat = true) : qb3 l = 0 := by
 have hb : qc7 (l.getD 0 0).toNat = false := by
  apply Bool.eq_false_iff.2
  intro hb
  rw [q2j] at hb
  rcases hb with e | e | e | e <;> (rw [e] at h; cases h)
 refine qj6 ?_ (qrb hb)
 apply Bool.eq_false_iff.2
 intro hp
 obtain ⟨r, rfl⟩ := q9k hp
 cases h
theorem qlq {w r : List UInt8} (hw : w ≠ []) (ho : onsW w = true) (hd : qb1 (w.getD 0 0).toNat = false) (h39 : decide (((w.getD 0 0).toNat : Int) = 39) = false) (hr : bnd r) : tokW (w ++ r) = (tokW r).map (qk6 w :: ·) := by
 have hon : onW (w.getD 0 0).toNat = true := by
  have := qzh hw
  rw [ho] at this
  simp only [Bool.true_eq, Bool.and_eq_true] at this
  exact this.1
 have hw' : qbo onW (w ++ r) = w.length := qrm ho hr
 refine qlr (qtk (by rw [qf3 hw]; exact hon)) hw ?_ rfl
 rw [q70 (by rw [qf3 hw]; exact hd) (by rw [qf3 hw, hon, h39]; rfl), hw', List.take_left]
theorem qzi {w : List UInt8} (h : varW w = true) : w ≠ [] ∧ onsW w = true ∧ qb1 (w.getD 0 0).toNat = false ∧ decide (((w.getD 0 0).toNat : Int) = 39) = false ∧ qk6 w = ⟨1, 0, 0, w⟩ := by
 simp only [varW, Bool.and_eq_true, decide_eq_true_eq, Bool.not_eq_true'] at h
 obtain ⟨⟨⟨⟨h1, h2⟩, h3⟩, h4⟩, h5⟩ := h
 have hs : ((w.getD 0 0).toNat : Int) = 95 ∨ (97 ≤ ((w.getD 0 0).toNat : Int) ∧ ((w.getD 0 0).toNat : Int) ≤ 122) := by
  simp only [qob, Bool.or_eq_true, Bool.and_eq_true, decide_eq_true_eq] at h3; omega
 have hc : conW w = false := by
  simp only [conW, qlz]
  have : (decide (65 ≤ ((w.getD 0 0).toNat : Int)) && decide (((w.getD 0 0).toNat : Int) ≤ 90)) = false := by
   simp only [Bool.and_eq_false_iff, decide_eq_false_iff_not]; omega
  rw [this]; simp
 refine ⟨h1, h4, ?_, decide_eq_false (by omega), ?_⟩
 ·simp only [qb1, Bool.and_eq_false_iff, decide_eq_false_iff_not]; omega
 ·rw [qk6, qyb, if_neg h2, h5, hc]; rfl
theorem q2h {w : List UInt8} (h : conW w = true) : w ≠ [] ∧ onsW w = true ∧ qb1 (w.getD 0 0).toNat = false ∧ decide (((w.getD 0 0).toNat : Int) = 39) = false ∧ qk6 w = ⟨2, 0, 0, w⟩ := by
 have h' := h
 simp only [conW, Bool.and_eq_true, decide_eq_true_eq] at h
 obtain ⟨⟨h1, h3⟩, h4⟩ := h
 have hs : 65 ≤ ((w.getD 0 0).toNat : Int) ∧ ((w.getD 0 0).toNat : Int) ≤ 90 := by
  simpa only [qlz, Bool.and_eq_true, decide_eq_true_eq] using h3
 have h2 : w ≠ [95] := fun e => by rw [e] at hs; revert hs; decide
 have h5 : resW w = false := by
  apply Bool.eq_false_iff.2
  intro hr
  have : w ∈ wordsW := by simpa [resW] using hr
  simp only [wordsW, List.mem_cons, List.not_mem_nil, or_false] at this
  rcases this with e | e | e | e | e | e | e | e | e | e | e <;> (rw [e] at hs; revert hs; decide)
 refine ⟨h1, h4, ?_, decide_eq_false (by omega), ?_⟩
 ·simp only [qb1, Bool.and_eq_false_iff, decide_eq_false_iff_not]; omega
 ·rw [qk6, qyb, if_neg h2, h5, h']; rfl
theorem qkb {w r : List UInt8} (h : varW w = true) (hr : bnd r) : tokW (w ++ r) = (tokW r).map ((⟨1, 0, 0, w⟩ : T) :: ·) := by
 obtain ⟨h1, h2, h3, h4, h5⟩ := qzi h
 rw [qlq h1 h2 h3 h4 hr, h5]
theorem qq0 {w r : List UInt8} (h : conW w = true) (hr : bnd r) : tokW (w ++ r) = (tokW r).map ((⟨2, 0, 0, w⟩ : T) :: ·) := by
 obtain ⟨h1, h2, h3, h4, h5⟩ := q2h h
 rw [qlq h1 h2 h3 h4 hr, h5]
theorem q5b : ∀ u : Nat, (digN u).all (fun c => qb1 c.toNat) = true ∧ digN u ≠ [] := fun u => by
 induction u using Nat.strongRecOn with
 | _ u ih =>
   by_cases h : u < 10
   ·rw [qgx h]
    refine ⟨?_, by simp⟩
    simp only [List.all_cons, List.all_nil, Bool.and_true]
    have : (UInt8.ofNat (48 + u)).toNat = 48 + u := by rw [UInt8.toNat_ofNat']; omega
    simp only [qb1, Bool.and_eq_true, decide_eq_true_eq]; rw [this]; omega
   ·rw [qls (by omega)]
    refine ⟨?_, by simp⟩
    have h8 : (UInt8.ofNat (48 + u % 10)).toNat = 48 + u % 10 := by rw [UInt8.toNat_ofNat']; omega
    have h9 : ((UInt8.ofNat (48 + u % 10)).toNat : Int) = 48 + (u % 10 : Nat) := by rw [h8]; omega
    rw [List.all_append, (ih (u / 10) (by omega)).1, Bool.true_and]
    simp only [List.all_cons, List.all_nil, Bool.and_true, qb1, Bool.and_eq_true, decide_eq_true_eq]
    rw [h9]; omega
theorem qsu : ∀ (a b : List UInt8) (k : Int), (qfn k a).2 = 0 → qfn k (a ++ b) = qfn (qfn k a).1 b
 | [], b, k, _ => rfl
 | c :: r, b, k, h => by
   rw [List.cons_append]
   rw [qfn] at h ⊢
   split
   ·rename_i hc; rw [if_pos hc] at h; simp at h
   ·rename_i hc
    rw [if_neg hc] at h
    rw [qsu r b _ h]
    conv => rhs; rw [qfn, if_neg hc]
theorem q0v : ∀ u : Nat, u ≤ 9223372036854775807 → qfn 0 (digN u) = ((u : Int), 0) := fun u => by
 induction u using Nat.strongRecOn with
 | _ u ih =>
   intro hu
   have hdig : ∀ d : Nat, d < 10 → digV (UInt8.ofNat (48 + d)) = (d : Int) := fun d hd => by
    have h8 : (UInt8.ofNat (48 + d)).toNat = 48 + d := by rw [UInt8.toNat_ofNat']; omega
    unfold digV
    rw [h8, qb31 (by omega) (by omega), q1k (by omega) (by omega)]; omega
   have htop : ∀ d : Nat, d < 10 → topV (UInt8.ofNat (48 + d)) = (9223372036854775807 - (d : Int)) / 10 := fun d hd => by
    unfold topV
    rw [hdig d hd]
    have e1 : IntKind.i64.wrap (9223372036854775807 - (d : Int)) = 9223372036854775807 - (d : Int) := q1k (by omega) (by omega)
    rw [e1, Int.tdiv_eq_ediv_of_nonneg (by omega)]; exact q1k (by omega) (by omega)
   have hnx : ∀ (d : Nat) (k : Int), d < 10 → 0 ≤ k → 10 * k + d ≤ 9223372036854775807 → nxtV k (UInt8.ofNat (48 + d)) = 10 * k + d := fun d k hd hk hb => by
    unfold nxtV
    rw [hdig d hd]
    have e1 : IntKind.i64.wrap (10 * k) = 10 * k := q1k (by omega) (by omega)
    rw [e1]; exact q1k (by omega) (by omega)
   by_cases h : u < 10
   ·rw [qgx h, qfn, htop u h, if_neg (by omega), hnx u 0 h (by omega) (by omega), qfn]
    simp
   ·have h1 := ih (u / 10) (by omega) (by omega)
    rw [qls h, qsu _ _ _ (by rw [h1]), h1]
    dsimp only
    rw [qfn, htop (u % 10) (by omega), if_neg (by omega), hnx (u % 10) _ (by omega) (by omega) (by omega), qfn]
    congr 1
    omega
theorem qz4 {m : Int} {r : List UInt8} (h0 : 0 ≤ m) (h1 : m ≤ 9223372036854775807) (hr : bnd r) : tokW (digI m ++ r) = (tokW r).map ((⟨3, 0, m, digI m⟩ : T) :: ·) := by
 obtain ⟨u, rfl⟩ : ∃ u : Nat, m = u := ⟨m.toNat, by omega⟩
 rw [q5s]
 obtain ⟨ha, hne⟩ := q5b u
 have hd : qb1 (((digN u).getD 0 0).toNat : Int) = true := by
  cases hx : digN u with
  | nil => exact absurd hx hne
  | cons c w => rw [hx] at ha; simp only [List.all_cons, Bool.and_eq_true] at ha; exact ha.1
 have hrd : qb1 ((r.getD 0 0).toNat : Int) = false := by
  unfold bnd onW at hr
  simp only [Bool.or_eq_false_iff] at hr
  exact hr.1.2
 have hw' : qbo qb1 (digN u ++ r) = (digN u).length := qrm ha hrd
 refine qlr (qtk ?_) hne ?_ rfl
 ·rw [qf3 hne]; unfold onW; rw [hd]; simp
 ·rw [q4q (by rw [qf3 hne]; exact hd), hw', List.take_left, qi9 hne ha, q0v u (by omega)]
def mkT (w : List UInt8) : T := ⟨5, 0, 0, w⟩
def rsT (w : List UInt8) : T := ⟨4, 0, 0, w⟩
theorem qee {w r : List UInt8} (hm : ∀ r, qr6 (w ++ r) = w.length) (hw : w ≠ []) (h0 : onW ((w.getD 0 0).toNat : Int) = false) (h1 : qc7 ((w.getD 0 0).toNat : Int) = false) (h2 : ∀ r, pfx [45, 45] (w ++ r) = false) : tokW (w ++ r) = (tokW r).map (mkT w :: ·) := by
 have hd : qb1 (((w ++ r).getD 0 0).toNat : Int) = false := by
  rw [qf3 hw]
  unfold onW at h0
  simp only [Bool.or_eq_false_iff] at h0
  exact h0.1.2
 have ho : (onW (((w ++ r).getD 0 0).toNat : Int) && !decide ((((w ++ r).getD 0 0).toNat : Int) = 39)) = false := by rw [qf3 hw, h0]; rfl
 have hp := List.length_pos_iff.2 hw
 refine qlr (qj6 (h2 r) (qrb (by rw [qf3 hw]; exact h1))) hw ?_ rfl
 rw [qoo hd ho (by rw [hm r]; omega), hm r, List.take_left]; rfl
theorem qb1k {r : List UInt8} : tokW (40 :: r) = (tokW r).map (mkT [40] :: ·) := qee (w := [40]) (fun r => by cases r <;> rfl) (by decide) rfl rfl (fun r => by cases r <;> rfl)

def Wd (s : List UInt8) (ts : List T) : Prop := ∀ r, bnd r → tokW (s ++ r) = (tokW r).map (ts ++ ·)
theorem q29 (a b : List T) (o : Option (List T)) : (o.map (b ++ ·)).map (a ++ ·) = o.map (a ++ b ++ ·) := by
 cases o <;> simp
theorem map_cons (t : T) (b : List T) (o : Option (List T)) : (o.map (b ++ ·)).map (t :: ·) = o.map (t :: b ++ ·) := by
 cases o <;> simp
theorem map_nil (o : Option (List T)) : o.map (([] : List T) ++ ·) = o := by cases o <;> simp
theorem Wd.get {s : List UInt8} {ts : List T} (h : Wd s ts) : tokW s = some ts := by
 have := h [] rfl
 rwa [List.append_nil, qbth, Option.map_some, List.append_nil] at this
def tkT (n : N) : List T := (tokW (ptT n)).getD []
theorem qdo (r : List UInt8) : bnd (32 :: r) := rfl
theorem qb19 (r : List UInt8) : bnd (41 :: r) := rfl
theorem qbzn (r : List UInt8) : bnd (44 :: r) := rfl
theorem qbya (r : List UInt8) : bnd (59 :: r) := rfl
theorem qco {r : List UInt8} : tokW (32 :: r) = tokW r := q0p rfl
theorem qbyr {r : List UInt8} : tokW (41 :: r) = (tokW r).map (mkT [41] :: ·) := qee (w := [41]) (fun r => by cases r <;> rfl) (by decide) rfl rfl (fun r => by cases r <;> rfl)
theorem qbuw {r : List UInt8} : tokW (123 :: r) = (tokW r).map (mkT [123] :: ·) := qee (w := [123]) (fun r => by cases r <;> rfl) (by decide) rfl rfl (fun r => by cases r <;> rfl)
theorem qbnx {r : List UInt8} : tokW (125 :: r) = (tokW r).map (mkT [125] :: ·) := qee (w := [125]) (fun r => by cases r <;> rfl) (by decide) rfl rfl (fun r => by cases r <;> rfl)
theorem qbyb {r : List UInt8} : tokW (59 :: r) = (tokW r).map (mkT [59] :: ·) := qee (w := [59]) (fun r => by cases r <;> rfl) (by decide) rfl rfl (fun r => by cases r <;> rfl)
theorem qbx2 {r : List UInt8} : tokW (44 :: r) = (tokW r).map (mkT [44] :: ·) := qee (w := [44]) (fun r => by cases r <;> rfl) (by decide) rfl rfl (fun r => by cases r <;> rfl)
theorem qb06 {r : List UInt8} : tokW (92 :: r) = (tokW r).map (mkT [92] :: ·) := qee (w := [92]) (fun r => by cases r <;> rfl) (by decide) rfl rfl (fun r => by cases r <;> rfl)
theorem q1g {r : List UInt8} : tokW (45 :: 62 :: r) = (tokW r).map (mkT [45, 62] :: ·) := qee (w := [45, 62]) (fun r => by cases r <;> rfl) (by decide) rfl rfl (fun r => by cases r <;> rfl)
theorem qbxo {r : List UInt8} : tokW (61 :: 62 :: r) = (tokW r).map (mkT [61, 62] :: ·) := qee (w := [61, 62]) (fun r => by cases r <;> rfl) (by decide) rfl rfl (fun r => by cases r <;> rfl)
theorem qbzh {r : List UInt8} : tokW (58 :: 58 :: r) = (tokW r).map (mkT [58, 58] :: ·) := qee (w := [58, 58]) (fun r => by cases r <;> rfl) (by decide) rfl rfl (fun r => by cases r <;> rfl)
theorem qb01 {r : List UInt8} : tokW (61 :: 32 :: r) = (tokW r).map (mkT [61] :: ·) := by
 have h : tokW ([61] ++ 32 :: r) = (tokW (32 :: r)).map (mkT [61] :: ·) := by
  refine qlr (t := mkT [61]) (qj6 (by cases r <;> rfl) rfl) (by decide) ?_ rfl
  rw [qoo (by rfl) (by rfl) (by cases r <;> (intro h; cases h))]
  cases r <;> rfl
 rw [qco] at h
 exact h
theorem qip {w r : List UInt8} (hw : w ≠ []) (ho : onsW w = true) (hd : qb1 (w.getD 0 0).toNat = false) (h39 : decide (((w.getD 0 0).toNat : Int) = 39) = false) (hn : qk6 w = rsT w) (hr : bnd r) : tokW (w ++ r) = (tokW r).map (rsT w :: ·) := by
 rw [qlq hw ho hd h39 hr, hn]
def cloK (b : Bool) (ts : List T) : List T := if b = true then ts else mkT [40] :: (ts ++ [mkT [41]])
theorem qm7 {s : List UInt8} {ts : List T} (h : Wd s ts) (b : Bool) : Wd (cloW b s) (cloK b ts) := by
 intro r hr
 cases b with
 | true => exact h r hr
 | false =>
   show tokW (40 :: (s ++ [41]) ++ r) = _
   rw [List.cons_append, qb1k, List.append_assoc, List.singleton_append, h _ (qb19 r), qbyr]
   cases tokW r <;> simp [cloK]
def qhb (n : N) : T := ⟨if n.kind = 1 then 1 else 2, 0, 0, n.text⟩
def atK (n : N) : List T := cloK (qz n) (tkT n)
theorem qvm {f : N → List UInt8} {g : N → List T} : ∀ (l : List N), (∀ x ∈ l, Wd (f x) (g x)) → ∀ r, bnd r → bnd ((l.map fun x => 32 :: f x).flatten ++ r) ∧ tokW ((l.map fun x => 32 :: f x).flatten ++ r) = (tokW r).map ((l.map g).flatten ++ ·)
 | [], _, r, hr => ⟨hr, (map_nil _).symm⟩
 | x :: l, h, r, hr => by
   obtain ⟨h1, h2⟩ := qvm l (fun y hy => h y (by simp [hy])) r hr
   simp only [List.map_cons, List.flatten_cons, List.append_assoc, List.cons_append]
   refine ⟨qdo _, ?_⟩
   rw [qco, h x (by simp) _ h1, h2, q29]
   cases tokW r <;> simp
theorem qfv {n : N} (h : tyW n = true) (ha : n.kind ≠ 1 ∧ n.text = arW) : n.kids.length = 2 ∧ tyW (n.kids.getD 0 N0) = true ∧ tyW (n.kids.getD 1 N0) = true := by
 rw [qs6, if_neg ha.1] at h
 split at h
 ·rename_i h2
  rw [if_pos (show n.text = [45, 62] from ha.2), Bool.and_eq_true, decide_eq_true_eq] at h
  have hl : n.kids.length = 2 := by omega
  rw [List.all_eq_true] at h
  exact ⟨hl, h.2 _ (qf (by omega)), h.2 _ (qf (by omega))⟩
 ·cases h
theorem qir {n : N} (h : tyW n = true) (ha : ¬ (n.kind ≠ 1 ∧ n.text = arW)) : (n.kind = 1 ∧ varW n.text = true ∧ n.kids = [] ∨ n.kind = 2 ∧ conW n.text = true) ∧ n.num = 0 ∧ ∀ x ∈ n.kids, tyW x = true := by
 rw [qs6] at h
 by_cases h1 : n.kind = 1
 ·rw [if_pos h1, Bool.and_eq_true, Bool.and_eq_true, decide_eq_true_eq, decide_eq_true_eq] at h
  have h0 : n.kids = [] := List.length_eq_zero_iff.1 (by omega)
  exact ⟨.inl ⟨h1, h.1.2, h0⟩, h.1.1, by rw [h0]; intro x hx; cases hx⟩
 ·rw [if_neg h1] at h
  split at h
  ·rename_i h2
   rw [if_neg (fun e : n.text = [45, 62] => ha ⟨h1, e⟩), Bool.and_eq_true, List.all_eq_true] at h
   exact ⟨.inr ⟨h2.1, h.1⟩, h2.2, h.2⟩
  ·cases h
theorem qbgx {n : N} (h : n.kind = 1 ∧ varW n.text = true ∧ n.kids = [] ∨ n.kind = 2 ∧ conW n.text = true) : Wd n.text [qhb n] := by
 intro r hr
 rcases h with ⟨h1, h2, _⟩ | ⟨h1, h2⟩
 ·rw [qkb h2 hr, qhb, if_pos h1]; cases tokW r <;> rfl
 ·rw [qq0 h2 hr, qhb, if_neg (by omega)]; cases tokW r <;> rfl
def tkT' (n : N) : List T := if n.kind ≠ 1 ∧ n.text = arW then cloK (!decide ((n.kids.getD 0 N0).text = arW)) (tkT (n.kids.getD 0 N0)) ++ mkT arW :: tkT (n.kids.getD 1 N0) else qhb n :: (n.kids.map atK).flatten
theorem wdT : ∀ n, tyW n = true → Wd (ptT n) (tkT n) ∧ tkT n = tkT' n := N.ind fun n ih ht => by
 have hw : Wd (ptT n) (tkT' n) := by
  intro r hr
  by_cases ha : n.kind ≠ 1 ∧ n.text = arW
  ·obtain ⟨hl, t0, t1⟩ := qfv ht ha
   have w0 := qm7 (ih _ (qf (i := 0) (by omega)) t0).1 (!decide ((n.kids.getD 0 N0).text = arW))
   have w1 := (ih _ (qf (i := 1) (by omega)) t1).1
   rw [qkr, tkT', if_pos ha, if_pos ha]
   simp only [List.append_assoc, List.cons_append, List.nil_append]
   rw [w0 _ (qdo _), qco, q1g, qco, w1 r hr]
   cases tokW r <;> simp [arW]
  ·obtain ⟨hn, _, hk⟩ := qir ht ha
   rw [qkr, tkT', if_neg ha, if_neg ha, List.append_assoc]
   obtain ⟨h1, h2⟩ := qvm (f := fun x => cloW (qz x) (ptT x)) (g := atK) n.kids (fun x hx => qm7 (ih x hx (hk x hx)).1 _) r hr
   have e : n.kids.map atT = n.kids.map fun x => 32 :: cloW (qz x) (ptT x) := rfl
   rw [e, qbgx hn _ h1]
   refine (congrArg _ h2).trans ?_
   cases tokW r <;> simp
 have he : tkT n = tkT' n := by rw [tkT, hw.get]; rfl
 exact ⟨by rw [he]; exact hw, he⟩

def Ah (c : K) (ts : List T) : Prop := c.err = 0 ∧ (remT c).map bare = ts
section
variable {c : K} {t : T} {r ts : List T}
theorem Ah.len (h : Ah c ts) : rest c = ts.length := by rw [← q9n, ← h.2, List.length_map]
theorem Ah.cons (h : Ah c (t :: r)) : bare (qt c) = t ∧ Ah (qj c) r ∧ (qj c).nest = c.nest := by
 obtain ⟨h1, h2⟩ := h
 cases hr : remT c with
 | nil => rw [hr] at h2; cases h2
 | cons u s =>
   rw [hr, List.map_cons] at h2
   obtain ⟨e1, e2⟩ := List.cons.inj h2
   obtain ⟨p1, _⟩ := qr9 hr h1
   obtain ⟨n1, n2, n3⟩ := q2y hr h1
   exact ⟨by rw [p1]; exact e1, ⟨n2, by rw [n1]; exact e2⟩, n3⟩
theorem Ah.nil (h : Ah c []) : (qt c).kind = 0 ∧ ∀ x, isK c x = false := by
 have hr : remT c = [] := List.map_eq_nil_iff.1 h.2
 have hp := qba3 hr h.1
 refine ⟨by rw [hp], fun x => ?_⟩
 unfold isK qbx
 rw [hp]; simp
theorem Ah.kind (h : Ah c (t :: r)) : (qt c).kind = t.kind := qny (t := qt c) (t' := bare (qt c)) rfl |>.trans (by rw [h.cons.1])
theorem Ah.text (h : Ah c (t :: r)) : (qt c).text = t.text := qng (t := qt c) (t' := bare (qt c)) rfl |>.trans (by rw [h.cons.1])
theorem Ah.num (h : Ah c (t :: r)) : (qt c).num = t.num := q6o (t := qt c) (t' := bare (qt c)) rfl |>.trans (by rw [h.cons.1])
theorem Ah.is (h : Ah c (t :: r)) (x : List UInt8) : isK c x = qbx t x := by
 unfold isK qbx
 rw [h.1, h.kind, h.text]; simp
theorem Ah.take (h : Ah c (t :: r)) {x : List UInt8} (hx : qbx t x = true) : qm c x = (qj c, true) := q3y (by rw [h.is]; exact hx)
theorem Ah.leave_it (h : Ah c (t :: r)) {x : List UInt8} (hx : qbx t x = false) : qm c x = (c, false) := qq2 (by rw [h.is]; exact hx)
theorem Ah.want (h : Ah c (t :: r)) {x : List UInt8} (hx : qbx t x = true) : qx c x = (qj c, true) := if_pos (by rw [h.is]; exact hx)
theorem Ah.enter (h : Ah c ts) (hn : c.nest < 200) : (qd c).2 = true ∧ Ah (qd c).1 ts ∧ (qd c).1.nest = c.nest + 1 := by
 rw [qsm h.1 (by omega)]
 exact ⟨rfl, h, rfl⟩
theorem Ah.leave (h : Ah c ts) {m : Nat} (hn : c.nest = m + 1) : Ah (qcy c) ts ∧ (qcy c).nest = m := by
 rw [qs0 h.1 (by omega)]
 exact ⟨h, by show c.nest - 1 = m; omega⟩
end
theorem qff {x n : N} (h1 : x.kind = n.kind) (h2 : x.num = n.num) (h3 : x.text = n.text) (h4 : x.kids.map qq = n.kids.map qq) : NS x n := by
 unfold NS
 rw [qhn, qhn, qfb, qfb, h1, h2, h3, h4]
def Got (c : K) (p : K × Option N) (n : N) (r : List T) : Prop := ∃ x, p.2 = some x ∧ NS x n ∧ Ah p.1 r ∧ p.1.nest = c.nest
def NoA (r : List T) : Prop := ∀ t s, r = t :: s → t.kind ≠ 1 ∧ t.kind ≠ 2 ∧ qbx t [40] = false
def NoR (r : List T) : Prop := ∀ t s, r = t :: s → qbx t arW = false
theorem qsz {w : List UInt8} {s : List T} (h : w ≠ [40]) : NoA (mkT w :: s) := fun t s' e => by
 obtain ⟨rfl, _⟩ := List.cons.inj e
 exact ⟨by show (5 : Int) ≠ 1; decide, by show (5 : Int) ≠ 2; decide, by simp [qbx, mkT, h]⟩
theorem qo0 {w : List UInt8} {s : List T} (h : w ≠ arW) : NoR (mkT w :: s) := fun t s' e => by
 obtain ⟨rfl, _⟩ := List.cons.inj e
 simp [qbx, mkT, h]
theorem qcj (w : List UInt8) : qbx (mkT w) w = true := by simp [qbx, mkT]
theorem qw0 {n : N} (ht : tyW n = true) (hl : qz n = true) : tkT n = [qhb n] ∧ (n.kind = 1 ∨ n.kind = 2) ∧ n.num = 0 := by
 have hk : n.kids = [] := of_decide_eq_true hl
 have ha : ¬ (n.kind ≠ 1 ∧ n.text = arW) := fun ha => by have := (qfv ht ha).1; rw [hk] at this; cases this
 obtain ⟨hn, h0, _⟩ := qir ht ha
 refine ⟨by rw [(wdT n ht).2, tkT', if_neg ha, hk]; rfl, ?_, h0⟩
 rcases hn with h | h
 ·exact .inl h.1
 ·exact .inr h.1
section
variable {rec : K → K × Option N}
theorem q1w {n : N} (ht : tyW n = true) {c : K} {r : List T} (h : Ah c (atK n ++ r)) (hn : qz n = false → c.nest < 200)
 (ih : qz n = false → ∀ d, Ah d (tkT n ++ mkT [41] :: r) → d.nest = c.nest + 1 → Got d (rec d) n (mkT [41] :: r)) : Got c (qbf rec c) n r := by
 unfold qbf
 cases hl : qz n with
 | true =>
   obtain ⟨e1, e2, e3⟩ := qw0 ht hl
   have hk : n.kids = [] := of_decide_eq_true hl
   rw [atK, hl, cloK, if_pos rfl, e1, List.singleton_append] at h
   obtain ⟨_, h2, h3⟩ := h.cons
   have hki := h.kind
   have hte := h.text
   rcases e2 with e2 | e2
   ·rw [if_pos (by rw [hki, qhb, if_pos e2])]
    exact ⟨_, rfl, qff e2.symm e3.symm hte (by rw [hk]; rfl), h2, h3⟩
   ·rw [if_neg (by rw [hki, qhb, if_neg (by omega)]; show ¬ (2 : Int) = 1; decide), if_pos (by rw [hki, qhb, if_neg (by omega)])]
    exact ⟨_, rfl, qff e2.symm e3.symm hte (by rw [hk]; rfl), h2, h3⟩
 | false =>
   rw [atK, hl, cloK, if_neg Bool.false_ne_true, List.cons_append, List.append_assoc, List.singleton_append] at h
   have hki := h.kind
   rw [if_neg (by rw [hki]; decide), if_neg (by rw [hki]; decide), if_pos (by rw [h.is]; exact qcj _)]
   obtain ⟨n1, n2, n3⟩ := h.enter (hn hl)
   rw [if_pos n1]
   obtain ⟨_, q1, q2⟩ := n2.cons
   obtain ⟨x, g1, g2, g3, g4⟩ := ih hl _ q1 (q2.trans n3)
   rw [if_pos (by rw [g1]; rfl), g3.want (qcj _)]
   dsimp only
   rw [if_pos rfl]
   obtain ⟨_, q3, q4⟩ := g3.cons
   obtain ⟨l1, l2⟩ := q3.leave (m := c.nest) (by rw [q4, g4, q2, n3])
   exact ⟨x, g1, g2, l1, l2⟩
theorem qwy {n : N} (ht : tyW n = true) : ∃ t s, atK n = t :: s ∧ (t.kind = 1 ∨ t.kind = 2 ∨ qbx t [40] = true) := by
 cases hl : qz n with
 | true =>
   obtain ⟨e1, e2, e3⟩ := qw0 ht hl
   refine ⟨qhb n, [], by rw [atK, hl, cloK, if_pos rfl, e1], ?_⟩
   unfold qhb
   dsimp only
   rcases e2 with e | e
   ·rw [if_pos e]; exact .inl rfl
   ·rw [if_neg (by omega)]; exact .inr (.inl rfl)
 | false => exact ⟨_, _, by rw [atK, hl, cloK, if_neg Bool.false_ne_true], .inr (.inr (qcj _))⟩
theorem qw1 : ∀ (l : List N) (f : Nat) (c : K) (acc : List N) (r : List T), (∀ x ∈ l, tyW x = true) → Ah c ((l.map atK).flatten ++ r) → NoA r → l.length < f →
 (∀ x ∈ l, qz x = false → c.nest < 200) → (∀ x ∈ l, qz x = false → ∀ d s, Ah d (tkT x ++ mkT [41] :: s) → rest d < rest c → d.nest = c.nest + 1 → Got d (rec d) x (mkT [41] :: s)) →
 ∃ xs, (qc5 rec f c acc).2 = some (acc ++ xs) ∧ xs.map qq = l.map qq ∧ Ah (qc5 rec f c acc).1 r ∧ (qc5 rec f c acc).1.nest = c.nest
 | l, 0, c, acc, r, _, _, _, hf, _, _ => by omega
 | [], f + 1, c, acc, r, _, h, hr, _, _, _ => by
   rw [qc5]
   have hb : begT c = false := by
    unfold begT
    cases r with
    | nil => obtain ⟨e1, e2⟩ := Ah.nil h; rw [e1, e2]; rfl
    | cons t s =>
      have h : Ah c (t :: s) := h
      obtain ⟨e1, e2, e3⟩ := hr t s rfl
      rw [h.kind, h.is, e3, decide_eq_false e1, decide_eq_false e2]; rfl
   rw [hb, if_neg Bool.false_ne_true]
   exact ⟨[], by simp, rfl, h, rfl⟩
 | x :: l, f + 1, c, acc, r, ht, h, hr, hf, hn, ih => by
   rw [qc5]
   rw [List.map_cons, List.flatten_cons, List.append_assoc] at h
   obtain ⟨t, s, e1, e2⟩ := qwy (ht x (by simp))
   have hb : begT c = true := by
    unfold begT
    rw [e1, List.cons_append] at h
    rw [h.kind, h.is]
    rcases e2 with e | e | e <;> simp [e]
   rw [if_pos hb]
   have hlen := h.len
   obtain ⟨y, g1, g2, g3, g4⟩ := q1w (rec := rec) (ht x (by simp)) h (hn x (by simp)) fun hlf d hd hdn => ih x (by simp) hlf d _ hd (by
    rw [hd.len, hlen, atK, hlf, cloK, if_neg Bool.false_ne_true]
    simp) hdn
   rw [if_pos (by rw [g1]; rfl), g1]
   have hl2 : rest (qbf rec c).1 ≤ rest c := by rw [g3.len, hlen]; simp
   obtain ⟨xs, k1, k2, k3, k4⟩ := qw1 l f _ (acc ++ [y]) r (fun z hz => ht z (by simp [hz])) g3 hr (by simp at hf; omega) (fun z hz hl => by rw [g4]; exact hn z (by simp [hz]) hl) fun z hz hl d s hd hdr hdn => ih z (by simp [hz]) hl d s hd (by omega) (by rw [hdn, g4])
   refine ⟨y :: xs, ?_, ?_, k3, k4.trans g4⟩
   ·dsimp only [Option.getD_some]; rw [k1]; simp
   ·rw [List.map_cons, List.map_cons, k2]; exact congrArg (· :: _) g2
theorem q1n {n : N} (ht : tyW n = true) (ha : ¬ (n.kind ≠ 1 ∧ n.text = arW)) {c : K} {r : List T} (h : Ah c (tkT n ++ r)) (hr : NoA r)
 (hn : ∀ x ∈ n.kids, qz x = false → c.nest < 200) (ih : ∀ x ∈ n.kids, qz x = false → ∀ d s, Ah d (tkT x ++ mkT [41] :: s) → rest d < rest c → d.nest = c.nest + 1 → Got d (rec d) x (mkT [41] :: s)) : Got c (qbm rec c) n r := by
 obtain ⟨hn', h0, hk⟩ := qir ht ha
 have he := (wdT n ht).2
 rw [tkT', if_neg ha] at he
 rw [he, List.cons_append] at h
 obtain ⟨_, h2, h3⟩ := h.cons
 have hki := h.kind
 have hte := h.text
 have hlen := h.len
 unfold qbm
 rcases hn' with ⟨k1, _, k3⟩ | ⟨k1, _⟩
 ·rw [if_neg (by rw [hki, qhb, if_pos k1]; show ¬ (1 : Int) = 2; decide)]
  unfold qbf
  rw [if_pos (by rw [hki, qhb, if_pos k1])]
  rw [k3] at h2
  exact ⟨_, rfl, qff k1.symm h0.symm hte (by rw [k3]; rfl), h2, h3⟩
 ·rw [if_pos (by rw [hki, qhb, if_neg (by omega)])]
  have hf : n.kids.length < rest c + 1 := by
   have : n.kids.length ≤ (n.kids.map atK).flatten.length := by
    have hp : ∀ l : List N, (∀ x ∈ l, tyW x = true) → l.length ≤ (l.map atK).flatten.length := fun l => by
     induction l with
     | nil => intro _; exact Nat.le_refl _
     | cons x l ihl =>
       intro hx
       obtain ⟨t, s, e1, _⟩ := qwy (hx x (by simp))
       have := ihl fun y hy => hx y (by simp [hy])
       simp only [List.map_cons, List.flatten_cons, List.length_append, List.length_cons, e1]
       omega
    exact hp _ hk
   rw [hlen]; simp only [List.length_cons, List.length_append]; omega
  have hlt : rest (qj c) < rest c := by rw [h2.len, hlen]; simp
  obtain ⟨xs, g1, g2, g3, g4⟩ := qw1 (rec := rec) n.kids (rest c + 1) (qj c) [] r hk h2 hr hf (fun x hx hl => by rw [h3]; exact hn x hx hl) fun x hx hl d s hd hdr hdn => ih x hx hl d s hd (by omega) (by rw [hdn, h3])
  rw [List.nil_append] at g1
  refine ⟨qiu c 2 xs, by rw [g1]; rfl, qff k1.symm h0.symm hte g2, g3, g4.trans h3⟩
end
theorem qcv {n x : N} (h : x ∈ n.kids) : dp x + 1 ≤ dp n := by
 rw [qlv n]
 have : ∀ l : List N, x ∈ l → dp x ≤ dps l := fun l => by
  induction l with
  | nil => intro h; cases h
  | cons y l ih =>
    intro h
    rw [dps]
    rcases List.mem_cons.1 h with rfl | h
    ·omega
    ·have := ih h; omega
 have := this _ h
 omega
theorem qhe (n : N) : 1 ≤ dp n := by rw [qlv]; omega
theorem qzx {n : N} (h : qz n = false) : 2 ≤ dp n := by
 cases hk : n.kids with
 | nil => rw [qz, decide_eq_true hk] at h; cases h
 | cons x l => have h1 := qcv (n := n) (x := x) (by rw [hk]; simp); have := qhe x; omega
theorem qbz0 {s : List T} : NoA (mkT arW :: s) := qsz (by decide)
theorem qm2 : ∀ (f : Nat) (n : N) (c : K) (r : List T), tyW n = true → Ah c (tkT n ++ r) → NoA r → NoR r → rest c < f → c.nest + 2 * dp n ≤ 201 → Got c (qbe f c) n r
 | 0, n, c, r, _, _, _, _, hf, _ => by omega
 | f + 1, n, c, r, ht, h, hr, hr', hf, hd => by
   have hp := qhe n
   rw [qbe]
   obtain ⟨n1, n2, n3⟩ := h.enter (by omega)
   rw [if_pos n1]
   have hc1 : rest (qd c).1 = rest c := by rw [n2.len, h.len]
   have hih : ∀ m : N, dp m + 1 ≤ dp n → ∀ x ∈ m.kids, qz x = false → tyW x = true → ∀ d s, Ah d (tkT x ++ mkT [41] :: s) → rest d < rest (qd c).1 → d.nest = (qd c).1.nest + 1 → Got d (qbe f d) x (mkT [41] :: s) := fun m hm x hx hl hxt d s hd' hdr hdn =>
    qm2 f x d _ hxt hd' (qsz (by decide)) (qo0 (by decide)) (by omega) (by have := qcv hx; omega)
   by_cases ha : n.kind ≠ 1 ∧ n.text = arW
   ·obtain ⟨hl, t0, t1⟩ := qfv ht ha
    have m0 := qf (l := n.kids) (i := 0) (by omega)
    have m1 := qf (l := n.kids) (i := 1) (by omega)
    have d0 := qcv m0
    have d1 := qcv m1
    have he := (wdT n ht).2
    rw [tkT', if_pos ha] at he
    rw [he, List.append_assoc, List.cons_append] at n2
    have hG : Got (qd c).1 (qbm (qbe f) (qd c).1) (n.kids.getD 0 N0) (mkT arW :: (tkT (n.kids.getD 1 N0) ++ r)) := by
     by_cases hb : (n.kids.getD 0 N0).text = arW
     ·rw [decide_eq_true hb] at n2
      have hk2 : (n.kids.getD 0 N0).kind ≠ 1 := fun e => by
       have := t0
       rw [qs6, if_pos e, hb] at this
       simp only [Bool.and_eq_true] at this
       have := this.1.2
       revert this; decide
      have hlf : qz (n.kids.getD 0 N0) = false := by
       obtain ⟨q, _, _⟩ := qfv t0 ⟨hk2, hb⟩
       apply decide_eq_false
       intro e; rw [e] at q; cases q
      have hat : atK (n.kids.getD 0 N0) = cloK (!true) (tkT (n.kids.getD 0 N0)) := by rw [atK, hlf]; rfl
      rw [← hat] at n2
      have hrw : qbm (qbe f) (qd c).1 = qbf (qbe f) (qd c).1 := by
       unfold qbm
       have n2' := n2
       rw [hat] at n2'
       rw [if_neg (by rw [Ah.kind (t := mkT [40]) n2']; decide)]
      rw [hrw]
      have hlen := n2.len
      have h2 := qzx hlf
      refine q1w t0 n2 (fun _ => by omega) fun _ d hd' hdn => qm2 f _ d _ t0 hd' (qsz (by decide)) (qo0 (by decide)) ?_ (by omega)
      have : rest d < rest (qd c).1 := by
       rw [hd'.len, hlen, hat]
       simp [cloK]
      omega
     ·rw [decide_eq_false hb] at n2
      have ha0 : ¬ ((n.kids.getD 0 N0).kind ≠ 1 ∧ (n.kids.getD 0 N0).text = arW) := fun h => hb h.2
      obtain ⟨_, _, hkk⟩ := qir t0 ha0
      exact q1n t0 ha0 n2 qbz0 (fun x hx hl => by have := qcv hx; have := qhe x; omega) fun x hx hl d s hd' hdr hdn => hih _ d0 x hx hl (hkk x hx) d s hd' hdr hdn
    obtain ⟨x, g1, g2, g3, g4⟩ := hG
    rw [if_pos (by rw [g1]; rfl), g3.take (x := [45, 62]) (qcj _)]
    dsimp only
    rw [if_pos rfl, g1]
    obtain ⟨_, q1, q2⟩ := g3.cons
    have hlt : rest (qj (qbm (qbe f) (qd c).1).1) < rest c := by
     rw [← hc1, q1.len, n2.len]
     simp only [List.length_append, List.length_cons]; omega
    obtain ⟨y, k1, k2, k3, k4⟩ := qm2 f _ _ r t1 q1 hr hr' (by omega) (by rw [q2, g4, n3]; omega)
    rw [k1]
    obtain ⟨l1, l2⟩ := k3.leave (m := c.nest) (by rw [k4, q2, g4, n3])
    refine ⟨qie x y, rfl, ?_, l1, l2⟩
    have hk2 : n.kind = 2 ∧ n.num = 0 := by
     have := ht
     rw [qs6, if_neg ha.1] at this
     split at this
     ·assumption
     ·cases this
    refine qff hk2.1.symm hk2.2.symm ha.2.symm ?_
    have hks : n.kids = [n.kids.getD 0 N0, n.kids.getD 1 N0] := by
     cases hq : n.kids with
     | nil => rw [hq] at hl; cases hl
     | cons a l => cases l with
       | nil => rw [hq] at hl; cases hl
       | cons b l => cases l with
         | nil => rfl
         | cons _ _ => rw [hq] at hl; simp at hl
    rw [hks]
    show [qq x, qq y] = [qq _, qq _]
    rw [show qq x = qq (n.kids.getD 0 N0) from g2, show qq y = qq (n.kids.getD 1 N0) from k2]
   ·obtain ⟨_, _, hkk⟩ := qir ht ha
    obtain ⟨x, g1, g2, g3, g4⟩ := q1n (rec := qbe f) ht ha n2 hr (fun x hx hl => by have := qcv hx; have := qhe x; omega) fun x hx hl d s hd' hdr hdn =>
     qm2 f x d _ (hkk x hx) hd' (qsz (by decide)) (qo0 (by decide)) (by omega) (by have := qcv hx; omega)
    have hno : qm (qbm (qbe f) (qd c).1).1 [45, 62] = ((qbm (qbe f) (qd c).1).1, false) := by
     cases r with
     | nil => exact qq2 ((Ah.nil g3).2 _)
     | cons t s => exact Ah.leave_it g3 (hr' t s rfl)
    rw [if_pos (by rw [g1]; rfl), hno]
    dsimp only
    rw [if_neg Bool.false_ne_true]
    obtain ⟨l1, l2⟩ := g3.leave (m := c.nest) (by rw [g4, n3])
    exact ⟨x, g1, g2, l1, l2⟩
end Go.Proofs.YtlmcofjcpadmiaaGreat
