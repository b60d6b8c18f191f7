/- A text of this proof. -/
import Derived.Test.YtbbjelfnocmaoaaGreatBbl

/-
 The value logic: a variable that is captured, and never written again, is memory that stays.
-/
namespace Go.V
open Go Go.RowKit
set_option linter.unusedVariables false
set_option linter.unusedSimpArgs false

section
variable {P : Program} {fr : Option Nat} {n m : Nat} {a : IC} {Q : VE → AF → List Ent → Prop} {af : AF} {H : List Ent}
theorem q25 {G : List Gh} {i : Nat} {g g' : Gh} (hg : G[i]? = some g) (hc : g'.core = g.core) : ∀ (j : Nat) (x : Gh), G[j]? = some x → ∃ y : Gh, (G.set i g')[j]? = some y ∧ y.core = x.core := fun j x hj => by
 by_cases hij : i = j
 ·subst hij
  rw [hg] at hj
  simp only [Option.some.injEq] at hj
  subst hj
  exact ⟨g', by rw [List.getElem?_set_self (List.getElem?_eq_some_iff.1 hg).1], hc⟩
 ·exact ⟨x, by rw [List.getElem?_set_ne hij]; exact hj, rfl⟩
theorem qo6 (i t j o : Nat) (he : ent H i = .blk [.ptr j o]) (ht : get af.tm t = .ptr i 0) (h : VI P fr n m a Q ⟨(t, .eptr 1 [.ptr j o] 0 0) :: af.tm, af.dl⟩ (H.set i .dead)) : VI P fr n m a Q af H := by
 intro c hc w M G act hst hr
 have hH := q9 he (by simp)
 obtain ⟨g, hg⟩ := hst.lenH hH
 obtain ⟨h1, ⟨vs, ty, h2, h3⟩, h4⟩ := hst.ok i g _ hg hH
 have hiG := (List.getElem?_eq_some_iff.1 hg).1
 obtain ⟨x, vr, rfl, hx, hvr⟩ := h3
 simp only [VRs] at hvr
 subst hvr
 obtain ⟨gj, hgj, rfl⟩ := hx
 let X : Value := .pointer (some ⟨gj.blk, o, none⟩)
 let g' : Gh := { g with fp := fun _ => False }
 let M' : Nat → Nat → Prop := fun b q => M b q ∨ (b = g.blk ∧ q = 0)
 have hcell : w.cell? ⟨g.blk, 0, none⟩ = some X := by rw [cell_of_heap h2 0]; rfl
 have hle : Le w M w M' := fun b q hm => ⟨.inl hm, rfl⟩
 have hcore := q25 (g' := g') hg rfl
 have hst' : St w M' (G.set i g') (H.set i .dead) := by
  have hget : ∀ (k : Nat) (gk : Gh), (G.set i g')[k]? = some gk → (i = k ∧ gk = g') ∨ (i ≠ k ∧ G[k]? = some gk) := fun k gk hk => by
   by_cases hik : i = k
   ·subst hik
    rw [List.getElem?_set_self hiG] at hk
    simp only [Option.some.injEq] at hk
    exact .inl ⟨rfl, hk.symm⟩
   ·rw [List.getElem?_set_ne hik] at hk
    exact .inr ⟨hik, hk⟩
  refine ⟨by rw [List.length_set, List.length_set]; exact hst.len, fun k gk e hk hke => ?_, fun k l ga gb b hk hl ha hb => ?_, fun k gk b hk hb => ?_, fun b q hm => ?_, fun b q v hm hv => ?_⟩
  ·rcases hget k gk hk with ⟨rfl, rfl⟩ | ⟨hik, hk⟩
   ·rw [List.getElem?_set_self (by rw [← hst.len]; exact hiG)] at hke
    simp only [Option.some.injEq] at hke
    subst hke
    exact fun b hb => hb
   ·rw [List.getElem?_set_ne hik] at hke
    refine qf3 hcore ⟨fun _ _ => rfl, hle, fun b q hb hm => ?_, Nat.le_refl _⟩ (hst.ok k gk e hk hke)
    rcases hm with hm | ⟨rfl, _⟩
    ·exact hm
    ·exact absurd (hst.dj i k g gk g.blk hg hk ((h1 _).2 rfl) hb) hik
  ·rcases hget k ga hk with ⟨rfl, rfl⟩ | ⟨_, hk⟩
   ·exact ha.elim
   ·rcases hget l gb hl with ⟨rfl, rfl⟩ | ⟨_, hl⟩
    ·exact hb.elim
    ·exact hst.dj k l ga gb b hk hl ha hb
  ·rcases hget k gk hk with ⟨rfl, rfl⟩ | ⟨_, hk⟩
   ·exact hb.elim
   ·exact hst.lt k gk b hk hb
  ·rcases hm with hm | ⟨rfl, _⟩
   ·exact hst.Mlt b q hm
   ·exact hst.lt i g g.blk hg ((h1 _).2 rfl)
  ·rcases hm with hm | ⟨rfl, rfl⟩
   ·exact hst.one b q v hm hv
   ·rw [hcell] at hv
    simp only [Option.some.injEq] at hv
    subst hv
    rfl
 have hext : Ext w M G w M' (G.set i g') := by
  refine ⟨rfl, rfl, rfl, Nat.le_refl _, hcore, hle, fun _ _ _ => rfl, fun b hb => ?_, fun b q hm => ?_⟩
  ·obtain ⟨k, gk, hk, hb⟩ := hb
   by_cases hik : i = k
   ·subst hik
    rw [List.getElem?_set_self hiG] at hk
    simp only [Option.some.injEq] at hk
    subst hk
    exact hb.elim
   ·rw [List.getElem?_set_ne hik] at hk
    exact .inl ⟨k, gk, hk, hb⟩
  ·rcases hm with hm | ⟨rfl, _⟩
   ·exact .inl hm
   ·exact .inr (.inl ⟨i, g, hg, (h1 _).2 rfl⟩)
 have hr' := hr.ext hext
 refine qpj (h c hc) hst' ⟨hr'.size, hr'.defers, fun u => ?_⟩ hext.toM
 show VR w M' (G.set i g') (if t = u then _ else get af.tm u) _
 by_cases htu : t = u
 ·subst htu
  rw [if_pos rfl]
  have h5 := hr.rd t
  rw [ht] at h5
  obtain ⟨g5, hg5, h6⟩ := h5
  rw [hg] at hg5
  simp only [Option.some.injEq] at hg5
  subst hg5
  obtain ⟨gj', hgj', hcj⟩ := hcore j gj hgj
  have hbj : gj'.blk = gj.blk := congrArg (·.1) hcj
  refine ⟨⟨g.blk, 0, none⟩, 1, [X], ⟨X, [], rfl, ⟨gj', hgj', by rw [hbj]⟩, rfl⟩, ⟨Nat.le_refl _, by decide, (by simp; rfl), .inr ⟨rfl, fun k v hk => ?_⟩⟩, Nat.zero_lt_succ 0, h6⟩
  have hk : ([X] : List Value)[k]? = some v := hk
  cases k with
  | zero => simp at hk; subst hk; exact ⟨hcell, .inr ⟨rfl, rfl⟩⟩
  | succ k => simp at hk
 ·rw [if_neg htu]
  exact hr'.rd u
end
end Go.V
