/- A text of this proof. -/
import Derived.Test.YtmekebfgmjaenaaGreatEbh
import Derived.Test.YtmekebfgmjaenaaGreatEbk

/- types: what is read is a type -/
namespace Go.Proofs.YtmekebfgmjaenaaGreat
open Go Go.RowKit Go.V
set_option linter.unusedVariables false
set_option linter.unusedSimpArgs false

/-- Steps of a cursor. -/
inductive Stp : K → K → Prop
  | refl (c : K) : Stp c c
  | next (c : K) : Stp c (q9 c)
  | fail (c : K) (e : Int) : Stp c (qe6 c e)
  | nest (c : K) (n : Nat) : Stp c { c with nest := n }
  | trans {a b c : K} : Stp a b → Stp b c → Stp a c
theorem qg4 (c : K) : Stp c (qj c).1 := by
  unfold qj
  split
  · split
    · exact .nest c _
    · exact .fail c 2
  · exact .refl c
theorem qi7 (c : K) : Stp c (qch c) := by
  unfold qch
  split
  · split
    · exact .nest c _
    · exact .refl c
  · exact .refl c
theorem qh5 (c : K) (x : List UInt8) : Stp c (qt c x).1 := by
  unfold qt
  split
  · exact .next c
  · exact .refl c
theorem qk8 (c : K) (x : List UInt8) : Stp c (qv c x).1 := by
  unfold qv
  split
  · exact .next c
  · exact .fail c 5
theorem qsm (c : K) (k : Int) : Stp c (qbp c k).1 := by
  unfold qbp
  split
  · exact .next c
  · exact .fail c 5
section
variable {rec : K → K × Option N} (hm : ∀ c, Stp c (rec c).1)
include hm
theorem qgy (c : K) : Stp c (qb2 rec c).1 := by
  unfold qb2
  split
  · exact .next c
  · split
    · exact .next c
    · split
      · split
        · have h1 := ((qg4 c).trans (.next _)).trans (hm _)
          split
          · exact (h1.trans (qk8 _ _)).trans (qi7 _)
          · exact h1.trans (qi7 _)
        · exact qg4 c
      · exact .fail c 5
theorem qnq : ∀ (f : Nat) (c : K) (acc : List N), Stp c (qdz rec f c acc).1
  | 0, c, acc => .refl c
  | f + 1, c, acc => by
    rw [qdz]
    split
    · split
      · exact (qgy hm c).trans (qnq f _ _)
      · exact qgy hm c
    · exact .refl c
theorem qqv (c : K) : Stp c (qce rec c).1 := by
  unfold qce
  split
  · exact (Stp.next c).trans (qnq hm _ _ _)
  · exact qgy hm c
theorem qh6 (c : K) : Stp c (qbq rec c).1 := by
  unfold qbq
  split
  · exact (qsm c 2).trans (qgy hm _)
  · exact qsm c 2
theorem qqd (many : Bool) : ∀ (f : Nat) (c : K) (acc : List N), Stp c (qeh rec many f c acc).1
  | 0, c, acc => .refl c
  | f + 1, c, acc => by
    rw [qeh]
    split
    · split
      · exact ((qh6 hm c).trans (qh5 _ _)).trans (qqd many f _ _)
      · exact qh6 hm c
    · exact qh6 hm c
theorem qzd (c : K) : Stp c (qhl rec c).1 := by
  unfold qhl
  split
  · exact qh5 c _
  · exact (qh5 c _).trans (qqd hm _ _ _ _)
theorem qu8 (c : K) : Stp c (qbj rec c).1 := by
  unfold qbj qge
  have h := qzd hm c
  split
  · split
    · split
      · split
        · exact (h.trans (qk8 _ _)).trans (qk8 _ _)
        · exact h.trans (qk8 _ _)
      · exact h.trans (qk8 _ _)
    · exact h
  · exact .refl c
end
theorem qh3 : ∀ (f : Nat) (c : K), Stp c (qca f c).1
  | 0, c => .refl c
  | f + 1, c => by
    have hr := (qg4 c).trans (qqv (qh3 f) (qj c).1)
    rw [qca]
    split
    · split
      · split
        · exact ((hr.trans (qh5 _ _)).trans (qh3 f _)).trans (qi7 _)
        · exact hr.trans (qi7 _)
      · exact hr.trans (qi7 _)
    · exact qg4 c
theorem Stp.words {c c' : K} (h : Stp c c') : c'.l = c.l ∧ c'.ep = c.ep := by
  induction h with
  | refl c => exact ⟨rfl, rfl⟩
  | next c =>
    unfold q9
    split
    · split <;> exact ⟨rfl, rfl⟩
    · exact ⟨rfl, rfl⟩
  | fail c e => unfold qe6; split <;> exact ⟨rfl, rfl⟩
  | nest c n => exact ⟨rfl, rfl⟩
  | trans _ _ h1 h2 => exact ⟨h2.1.trans h1.1, h2.2.trans h1.2⟩
/-- Words that are as the lexer makes them. -/
def okK (c : K) : Prop := ∀ t ∈ c.l, q4l t
theorem Stp.okK {c c' : K} (h : Stp c c') (hc : okK c) : okK c' := by
  unfold Go.Proofs.YtmekebfgmjaenaaGreat.okK at *
  rw [h.words.1]; exact hc
theorem qhn {c : K} (h : okK c) : q4l (qbd c) := by
  unfold qbd
  split
  · split
    · exact h _ (qxv (by assumption))
    · exact ⟨fun h => by simp at h, fun h => by simp at h, fun h => by simp at h⟩
  · exact ⟨fun h => by simp [T0] at h, fun h => by simp [T0] at h, fun h => by simp [T0] at h⟩
theorem qbdd {t : List UInt8} {p : Int} {ks : List N} (h : conW t = true) (hk : ks.all tyW = true) : tyW (.mk 2 p 0 t ks) = true := by
  rw [tyW, if_neg (by decide), if_pos ⟨rfl, rfl⟩, if_neg (qbzo h), h, qxk, hk]; rfl
section
variable {rec : K → K × Option N} (hm : ∀ c, Stp c (rec c).1) (ih : ∀ c, okK c → ∀ n, (rec c).2 = some n → tyW n = true)
include hm ih
omit hm in
theorem qv8 {c : K} (hc : okK c) : ∀ n, (qb2 rec c).2 = some n → tyW n = true := by
  intro n h
  obtain ⟨h1, h2, h3⟩ := qhn hc
  unfold qb2 at h
  split at h
  · rename_i hk; cases h; rw [qh1, tyW, if_pos rfl, h1 hk]; rfl
  · split at h
    · rename_i hk; cases h; exact qbdd (h2 hk) rfl
    · split at h
      · split at h
        · split at h
          · simp only at h
            split at h
            · exact ih _ (((qg4 c).trans (.next _)).okK hc) n h
            · cases h
          · cases h
        · cases h
      · cases h
theorem q24 : ∀ (f : Nat) (c : K) (acc : List N), okK c → acc.all tyW = true → ∀ l, (qdz rec f c acc).2 = some l → l.all tyW = true
  | 0, c, acc, hc, _ => fun n h => by cases h
  | f + 1, c, acc, hc, ha => fun l h => by
    rw [qdz] at h
    split at h
    · split at h
      · rename_i hs
        obtain ⟨n, hn⟩ := Option.isSome_iff_exists.1 hs
        refine q24 f _ _ ((qgy hm c).okK hc) ?_ l h
        rw [List.all_append, ha, hn]
        simp [qv8 ih hc n hn]
      · cases h
    · cases h; exact ha
theorem qby5 {c : K} (hc : okK c) : ∀ n, (qce rec c).2 = some n → tyW n = true := by
  intro n h
  unfold qce at h
  split at h
  · rename_i hk
    obtain ⟨l, hl, rfl⟩ := Option.map_eq_some_iff.1 h
    exact qbdd ((qhn hc).2.1 hk) (q24 hm ih _ _ _ ((Stp.next c).okK hc) rfl l hl)
  · exact qv8 ih hc n h
omit hm in
theorem qbts {c : K} (hc : okK c) : ∀ n, (qbq rec c).2 = some n → prW n = true := by
  intro n h
  unfold qbq at h
  split at h
  · rename_i hk
    obtain ⟨m, hmm, rfl⟩ := Option.map_eq_some_iff.1 h
    obtain ⟨e1, e2⟩ := qk2 hk
    have h2 := qv8 ih ((qsm c 2).okK hc) m hmm
    rw [(qr8 hk).2]
    simp [prW, qnw, N.kind, N.num, N.text, N.kids, (qhn hc).2.1 e2, h2]
  · cases h
theorem qs4 (many : Bool) : ∀ (f : Nat) (c : K) (acc : List N), okK c → acc.all prW = true → ∀ l, (qeh rec many f c acc).2 = some l → l.all prW = true
  | 0, c, acc, hc, _ => fun n h => by cases h
  | f + 1, c, acc, hc, ha => fun l h => by
    rw [qeh] at h
    split at h
    · rename_i hs
      obtain ⟨n, hn⟩ := Option.isSome_iff_exists.1 hs
      have hall : (acc ++ [(qbq rec c).2.getD N0]).all prW = true := by
        rw [List.all_append, ha, hn]
        simp [qbts ih hc n hn]
      split at h
      · exact qs4 many f _ _ (((qh6 hm c).trans (qh5 _ _)).okK hc) hall l h
      · cases h; exact hall
    · cases h
theorem qbcf {c : K} (hc : okK c) : ∀ l, (qbj rec c).2 = some l → l.all prW = true := by
  intro l h
  unfold qbj at h
  split at h
  · have h := qkw h
    unfold qhl at h
    split at h
    · cases h; rfl
    · exact qs4 hm ih _ _ _ _ ((qh5 c _).okK hc) rfl l h
  · simp only at h
    split at h
    · cases h
    · cases h; rfl
end
theorem qbt4 : ∀ (f : Nat) (c : K), okK c → ∀ n, (qca f c).2 = some n → tyW n = true
  | 0, c, hc => fun n h => by cases h
  | f + 1, c, hc => fun n h => by
    have ih := qbt4 f
    have hr := (qg4 c).trans (qqv (qh3 f) (qj c).1)
    rw [qca] at h
    split at h
    · split at h
      · rename_i hs
        obtain ⟨m, hm⟩ := Option.isSome_iff_exists.1 hs
        have h1 := qby5 (qh3 f) ih ((qg4 c).okK hc) m hm
        split at h
        · obtain ⟨q, hq, rfl⟩ := Option.map_eq_some_iff.1 h
          have h2 := ih _ ((hr.trans (qh5 _ _)).okK hc) q hq
          rw [hm]
          rw [qh2, tyW, if_neg (by decide), if_pos ⟨rfl, rfl⟩, if_pos rfl, tysW, tysW, tysW]
          simp [h1, h2]
        · rw [hm] at h; cases h; exact h1
      · cases h
    · cases h
theorem qbtq {f : Nat} {c : K} (hc : okK c) : ∀ n, (qe4 f c).2 = some n → quW n = true := by
  intro n h
  unfold qe4 at h
  split at h
  · rename_i hs
    obtain ⟨l, hl⟩ := Option.isSome_iff_exists.1 hs
    obtain ⟨q, hq, rfl⟩ := Option.map_eq_some_iff.1 h
    have h1 := qbcf (qh3 f) (qbt4 f) hc l hl
    have h2 := qbt4 f _ ((qu8 (qh3 f) c).okK hc) q hq
    rw [hl]
    have hlen : (((l ++ [q]).length : Int) - 1).toNat = l.length := by simp
    simp only [quW, qlp, qsl, N.kind, N.num, N.text, N.kids, Option.getD_some, hlen]
    simp [h1, h2]
  · cases h
end Go.Proofs.YtmekebfgmjaenaaGreat
