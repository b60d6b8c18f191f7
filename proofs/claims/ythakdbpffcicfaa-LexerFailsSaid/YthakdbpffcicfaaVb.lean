
/-
  The value logic, part b: entries (memory of an activation's own), the state's relation to a world, and how both go on.
-/
import Derived.Test.YthakdbpffcicfaaVa
namespace Go.V
open Go Go.RowKit
set_option linter.unusedVariables false
set_option linter.unusedSimpArgs false

/-- A loop over a function: its record, but for the temporaries. -/
structure LpD where
  st : LoopState
  jmp : Option Code
  fn : FuncId
  ps : Array Tmp
  asn : Code
  bd : Code

/-- What an activation has of its own: nothing any more · a block · a row that is only appended to · a row that is written · the record of a loop over a function, with its temporaries. -/
inductive Ent where
  | dead
  | blk (cs : List AV)
  | app (n : Nat) (es : List AV)
  | mrow (n : Nat) (es : List AV)
  | lp (d : LpD) (as : List AV)

def own (G : List Gh) (b : Nat) : Prop := ∃ (i : Nat) (g : Gh), G[i]? = some g ∧ g.fp b

/-- Immutable cells stay, and stay as they are. -/
def Le (w : World) (M : Nat → Nat → Prop) (w' : World) (M' : Nat → Nat → Prop) : Prop :=
  ∀ b o, M b o → M' b o ∧ w'.cell? ⟨b, o, none⟩ = w.cell? ⟨b, o, none⟩

/-- What the owner of some blocks may count on while others go on. -/
structure Agr (fp : Nat → Prop) (w : World) (M : Nat → Nat → Prop) (w' : World) (M' : Nat → Nat → Prop) : Prop where
  same : ∀ b, fp b → w'.heap[b]? = w.heap[b]?
  le : Le w M w' M'
  fresh : ∀ b o, fp b → M' b o → M b o
  size : w.heap.size ≤ w'.heap.size

def RowOK (w : World) (M : Nat → Nat → Prop) (G : List Gh) (g : Gh) (n : Nat) (es : List AV) : Prop :=
  es.length ≤ g.cap ∧ g.cap ≤ maxLen ∧ ∃ (vs : List Value) (t : TypeId) (us : List Value), w.heap[g.blk]? = some (.cells vs.toArray t (0, 0)) ∧ vs.length = g.cap * n ∧
    VRs w M G es us ∧ (∀ u ∈ us, u.cells.size = n) ∧ vs.take (n * es.length) = us.flatMap (·.cells.toList)

def EntOK (w : World) (M : Nat → Nat → Prop) (G : List Gh) (g : Gh) : Ent → Prop
  | .dead => ∀ b, ¬ g.fp b
  | .blk cs => (∀ b, g.fp b ↔ b = g.blk) ∧ (∃ (vs : List Value) (t : TypeId), w.heap[g.blk]? = some (.cells vs.toArray t (0, 0)) ∧ VRs w M G cs vs) ∧ ∀ o, ¬ M g.blk o
  | .app n es => (∀ b, g.fp b ↔ b = g.blk) ∧ RowOK w M G g n es ∧ ∀ o, M g.blk o ↔ o < n * es.length
  | .mrow n es => (∀ b, g.fp b ↔ b = g.blk) ∧ RowOK w M G g n es ∧ ∀ o, ¬ M g.blk o
  | .lp d as => (∀ b, g.fp b ↔ b = g.blk ∨ b = g.cap) ∧
    (∃ vs : List Value, w.heap[g.blk]? = some (.loop { state := d.st, pending := d.jmp, fn := d.fn, tmps := vs.toArray, params := d.ps, assign := d.asn, body := d.bd, defers := g.cap }) ∧ VRs w M G as vs) ∧
    w.heap[g.cap]? = some (.deferred (some [])) ∧ g.val = .func (.yield g.blk) #[] #[] ∧ (∀ o, ¬ M g.blk o) ∧ ∀ o, ¬ M g.cap o

structure St (w : World) (M : Nat → Nat → Prop) (G : List Gh) (H : List Ent) : Prop where
  len : G.length = H.length
  ok : ∀ (i : Nat) (g : Gh) (e : Ent), G[i]? = some g → H[i]? = some e → EntOK w M G g e
  dj : ∀ (i j : Nat) (g g' : Gh) (b : Nat), G[i]? = some g → G[j]? = some g' → g.fp b → g'.fp b → i = j
  lt : ∀ (i : Nat) (g : Gh) (b : Nat), G[i]? = some g → g.fp b → b < w.heap.size
  Mlt : ∀ b o, M b o → b < w.heap.size
  one : ∀ b o v, M b o → w.cell? ⟨b, o, none⟩ = some v → v.oneCell' = true

/-- The activation has gone on: what it may have done to the world. -/
structure Ext (w : World) (M : Nat → Nat → Prop) (G : List Gh) (w' : World) (M' : Nat → Nat → Prop) (G' : List Gh) : Prop where
  os : w'.os = w.os
  tape : w'.tape = w.tape
  output : w'.output = w.output
  size : w.heap.size ≤ w'.heap.size
  core : ∀ (i : Nat) (g : Gh), G[i]? = some g → ∃ g' : Gh, G'[i]? = some g' ∧ g'.core = g.core
  le : Le w M w' M'
  out : ∀ b, b < w.heap.size → ¬ own G b → w'.heap[b]? = w.heap[b]?
  new : ∀ b, own G' b → own G b ∨ w.heap.size ≤ b
  Mnew : ∀ b o, M' b o → M b o ∨ own G b ∨ w.heap.size ≤ b

section
variable {w w' w'' : World} {M M' M'' : Nat → Nat → Prop} {G G' G'' : List Gh} {H H' : List Ent}

theorem Le.refl (w : World) (M : Nat → Nat → Prop) : Le w M w M := fun _ _ h => ⟨h, rfl⟩
theorem Le.trans (h : Le w M w' M') (k : Le w' M' w'' M'') : Le w M w'' M'' := fun b o hm => by
  obtain ⟨h1, h2⟩ := h b o hm
  obtain ⟨h3, h4⟩ := k b o h1
  exact ⟨h3, h4.trans h2⟩

theorem Agr.refl (fp : Nat → Prop) (w : World) (M : Nat → Nat → Prop) : Agr fp w M w M := ⟨fun _ _ => rfl, Le.refl w M, fun _ _ _ h => h, Nat.le_refl _⟩
theorem Agr.trans {fp : Nat → Prop} (h : Agr fp w M w' M') (k : Agr fp w' M' w'' M'') : Agr fp w M w'' M'' :=
  ⟨fun b hb => (k.same b hb).trans (h.same b hb), h.le.trans k.le, fun b o hb hm => h.fresh b o hb (k.fresh b o hb hm), Nat.le_trans h.size k.size⟩

theorem Ext.refl (w : World) (M : Nat → Nat → Prop) (G : List Gh) : Ext w M G w M G :=
  ⟨rfl, rfl, rfl, Nat.le_refl _, fun i g h => ⟨g, h, rfl⟩, Le.refl w M, fun _ _ _ => rfl, fun _ h => .inl h, fun _ _ h => .inl h⟩

theorem Ext.trans (h : Ext w M G w' M' G') (k : Ext w' M' G' w'' M'' G'') : Ext w M G w'' M'' G'' where
  os := k.os.trans h.os
  tape := k.tape.trans h.tape
  output := k.output.trans h.output
  size := Nat.le_trans h.size k.size
  core := fun i g hg => by
    obtain ⟨g', hg', hc⟩ := h.core i g hg
    obtain ⟨g'', hg'', hc'⟩ := k.core i g' hg'
    exact ⟨g'', hg'', hc'.trans hc⟩
  le := h.le.trans k.le
  out := fun b hb ho => by
    have h1 := h.out b hb ho
    have h2 : ¬ own G' b := fun hc => by
      rcases h.new b hc with hx | hx
      · exact ho hx
      · omega
    exact (k.out b (Nat.lt_of_lt_of_le hb h.size) h2).trans h1
  new := fun b hb => by
    rcases k.new b hb with hx | hx
    · exact h.new b hx
    · exact .inr (Nat.le_trans h.size hx)
  Mnew := fun b o hm => by
    rcases k.Mnew b o hm with hx | hx | hx
    · exact h.Mnew b o hx
    · rcases h.new b hx with hy | hy
      · exact .inr (.inl hy)
      · exact .inr (.inr hy)
    · exact .inr (.inr (Nat.le_trans h.size hx))

theorem VR.ext {v : AV} {x : Value} (h : VR w M G v x) (e : Ext w M G w' M' G') : VR w' M' G' v x := VR_mono e.core e.le h
theorem VRs.ext {v : List AV} {x : List Value} (h : VRs w M G v x) (e : Ext w M G w' M' G') : VRs w' M' G' v x := VRs_mono e.core e.le h

theorem RowOK_agr {g : Gh} {n : Nat} {es : List AV} (hc : ∀ (i : Nat) (g : Gh), G[i]? = some g → ∃ g' : Gh, G'[i]? = some g' ∧ g'.core = g.core)
    (hle : Le w M w' M') (hs : w'.heap[g.blk]? = w.heap[g.blk]?) (h : RowOK w M G g n es) : RowOK w' M' G' g n es := by
  obtain ⟨h1, h2, vs, t, us, h3, h4, h5, h6, h7⟩ := h
  exact ⟨h1, h2, vs, t, us, hs.trans h3, h4, VRs_mono hc hle h5, h6, h7⟩

/-- An entry that nobody has touched holds on. -/
theorem EntOK_agr {g : Gh} {e : Ent} (hc : ∀ (i : Nat) (g : Gh), G[i]? = some g → ∃ g' : Gh, G'[i]? = some g' ∧ g'.core = g.core)
    (ha : Agr g.fp w M w' M') (h : EntOK w M G g e) : EntOK w' M' G' g e := by
  cases e with
  | dead => exact h
  | blk cs =>
    obtain ⟨h1, ⟨vs, t, h2, h3⟩, h4⟩ := h
    have hb : g.fp g.blk := (h1 _).2 rfl
    exact ⟨h1, ⟨vs, t, (ha.same _ hb).trans h2, VRs_mono hc ha.le h3⟩, fun o hm => h4 o (ha.fresh _ o hb hm)⟩
  | app n es =>
    obtain ⟨h1, h2, h3⟩ := h
    have hb : g.fp g.blk := (h1 _).2 rfl
    exact ⟨h1, RowOK_agr hc ha.le (ha.same _ hb) h2, fun o => ⟨fun hm => (h3 o).1 (ha.fresh _ o hb hm), fun ho => (ha.le _ _ ((h3 o).2 ho)).1⟩⟩
  | mrow n es =>
    obtain ⟨h1, h2, h3⟩ := h
    have hb : g.fp g.blk := (h1 _).2 rfl
    exact ⟨h1, RowOK_agr hc ha.le (ha.same _ hb) h2, fun o hm => h3 o (ha.fresh _ o hb hm)⟩
  | lp d as =>
    obtain ⟨h1, ⟨vs, h2, h3⟩, h4, h5, h6, h7⟩ := h
    have hb : g.fp g.blk := (h1 _).2 (.inl rfl)
    have hc' : g.fp g.cap := (h1 _).2 (.inr rfl)
    exact ⟨h1, ⟨vs, (ha.same _ hb).trans h2, VRs_mono hc ha.le h3⟩, (ha.same _ hc').trans h4, h5, fun o hm => h6 o (ha.fresh _ o hb hm), fun o hm => h7 o (ha.fresh _ o hc' hm)⟩

/-- A state out of another one, entry by entry. -/
theorem St_of (h : St w M G H) (hlen : G'.length = H'.length)
    (hent : ∀ (i : Nat) (g : Gh) (e : Ent), G'[i]? = some g → H'[i]? = some e → (G[i]? = some g ∧ H[i]? = some e ∧ Agr g.fp w M w' M') ∨ EntOK w' M' G' g e)
    (hc : ∀ (i : Nat) (g : Gh), G[i]? = some g → ∃ g' : Gh, G'[i]? = some g' ∧ g'.core = g.core)
    (hdj : ∀ (i j : Nat) (g g' : Gh) (b : Nat), G'[i]? = some g → G'[j]? = some g' → g.fp b → g'.fp b → i = j)
    (hlt : ∀ (i : Nat) (g : Gh) (b : Nat), G'[i]? = some g → g.fp b → b < w'.heap.size) (hM : ∀ b o, M' b o → b < w'.heap.size)
    (hone : ∀ b o v, M' b o → w'.cell? ⟨b, o, none⟩ = some v → v.oneCell' = true) : St w' M' G' H' where
  len := hlen
  ok := fun i g e hg he => by
    rcases hent i g e hg he with ⟨h1, h2, h3⟩ | h3
    · exact EntOK_agr hc h3 (h.ok i g e h1 h2)
    · exact h3
  dj := hdj
  lt := hlt
  Mlt := hM
  one := hone

theorem getElem?_snoc {α : Type} (l : List α) (x : α) (i : Nat) : (l ++ [x])[i]? = if i < l.length then l[i]? else if i = l.length then some x else none := by
  by_cases h : i < l.length
  · simp [h, List.getElem?_append_left h]
  · rw [List.getElem?_append_right (by omega)]
    by_cases h2 : i = l.length
    · simp [h2]
    · have : i - l.length ≠ 0 := by omega
      simp [h, h2]
      omega

theorem core_snoc (G : List Gh) (g : Gh) : ∀ (i : Nat) (g₀ : Gh), G[i]? = some g₀ → ∃ g' : Gh, (G ++ [g])[i]? = some g' ∧ g'.core = g₀.core := fun i g₀ h => by
  have hi := (List.getElem?_eq_some_iff.1 h).1
  exact ⟨g₀, by rw [getElem?_snoc, if_pos hi]; exact h, rfl⟩

theorem St.lenG (h : St w M G H) {i : Nat} {g : Gh} (hg : G[i]? = some g) : ∃ e, H[i]? = some e := by
  have hi := (List.getElem?_eq_some_iff.1 hg).1
  rw [h.len] at hi
  exact ⟨H[i], List.getElem?_eq_getElem hi⟩
theorem St.lenH (h : St w M G H) {i : Nat} {e : Ent} (he : H[i]? = some e) : ∃ g, G[i]? = some g := by
  have hi := (List.getElem?_eq_some_iff.1 he).1
  rw [← h.len] at hi
  exact ⟨G[i], List.getElem?_eq_getElem hi⟩

/-- A new entry behind the others, over blocks that are new; nothing that was there turns. -/
theorem St_push {g : Gh} {e : Ent} (h : St w M G H) (hsz : w.heap.size ≤ w'.heap.size) (hold : ∀ b, b < w.heap.size → w'.heap[b]? = w.heap[b]?) (hle : ∀ b o, M b o → M' b o)
    (hfr : ∀ b o, M' b o → M b o ∨ w.heap.size ≤ b ∧ ∀ v, w'.cell? ⟨b, o, none⟩ = some v → v.oneCell' = true) (hM : ∀ b o, M' b o → b < w'.heap.size)
    (hfp : ∀ b, g.fp b → w.heap.size ≤ b ∧ b < w'.heap.size) (he : EntOK w' M' (G ++ [g]) g e) : St w' M' (G ++ [g]) (H ++ [e]) := by
  have hLe : Le w M w' M' := fun b o hm => ⟨hle b o hm, World.cell?_of_block (w := w) (hold b (h.Mlt b o hm))⟩
  refine St_of h (by simp [h.len]) (fun i g' e' hg' he' => ?_) (core_snoc G g) (fun i j g₁ g₂ b h1 h2 h3 h4 => ?_) (fun i g' b hg' hb => ?_) hM
    (fun b o v hm hv => by
      rcases hfr b o hm with hx | hx
      · exact h.one b o v hx ((hLe b o hx).2 ▸ hv)
      · exact hx.2 v hv)
  · rw [getElem?_snoc] at hg' he'
    by_cases hi : i < G.length
    · rw [if_pos hi] at hg'
      rw [if_pos (by rw [← h.len]; exact hi)] at he'
      refine .inl ⟨hg', he', fun b hb => hold b (h.lt i g' b hg' hb), hLe, fun b o hb hm => ?_, hsz⟩
      rcases hfr b o hm with hx | hx
      · exact hx
      · have := h.lt i g' b hg' hb; omega
    · rw [if_neg hi] at hg'
      rw [if_neg (by rw [← h.len]; exact hi)] at he'
      by_cases h2 : i = G.length
      · rw [if_pos h2] at hg'
        rw [if_pos (by rw [← h.len]; exact h2)] at he'
        simp only [Option.some.injEq] at hg' he'
        subst hg' he'
        exact .inr he
      · rw [if_neg h2] at hg'; cases hg'
  · rw [getElem?_snoc] at h1 h2
    by_cases hi : i < G.length <;> by_cases hj : j < G.length
    · rw [if_pos hi] at h1; rw [if_pos hj] at h2
      exact h.dj i j g₁ g₂ b h1 h2 h3 h4
    · rw [if_pos hi] at h1; rw [if_neg hj] at h2
      by_cases hj2 : j = G.length
      · rw [if_pos hj2] at h2; simp only [Option.some.injEq] at h2; subst h2
        have := h.lt i g₁ b h1 h3; have := (hfp b h4).1; omega
      · rw [if_neg hj2] at h2; cases h2
    · rw [if_neg hi] at h1; rw [if_pos hj] at h2
      by_cases hi2 : i = G.length
      · rw [if_pos hi2] at h1; simp only [Option.some.injEq] at h1; subst h1
        have := h.lt j g₂ b h2 h4; have := (hfp b h3).1; omega
      · rw [if_neg hi2] at h1; cases h1
    · rw [if_neg hi] at h1; rw [if_neg hj] at h2
      by_cases hi2 : i = G.length <;> by_cases hj2 : j = G.length
      · omega
      · rw [if_neg hj2] at h2; cases h2
      · rw [if_neg hi2] at h1; cases h1
      · rw [if_neg hi2] at h1; cases h1
  · rw [getElem?_snoc] at hg'
    by_cases hi : i < G.length
    · rw [if_pos hi] at hg'; have := h.lt i g' b hg' hb; omega
    · rw [if_neg hi] at hg'
      by_cases h2 : i = G.length
      · rw [if_pos h2] at hg'; simp only [Option.some.injEq] at hg'; subst hg'; exact (hfp b hb).2
      · rw [if_neg h2] at hg'; cases hg'

theorem Ext_push {g : Gh} (h : St w M G H) (hos : w'.os = w.os) (htape : w'.tape = w.tape) (hout : w'.output = w.output) (hsz : w.heap.size ≤ w'.heap.size)
    (hold : ∀ b, b < w.heap.size → w'.heap[b]? = w.heap[b]?) (hle : ∀ b o, M b o → M' b o) (hfr : ∀ b o, M' b o → M b o ∨ w.heap.size ≤ b)
    (hfp : ∀ b, g.fp b → w.heap.size ≤ b) : Ext w M G w' M' (G ++ [g]) where
  os := hos
  tape := htape
  output := hout
  size := hsz
  core := core_snoc G g
  le := fun b o hm => ⟨hle b o hm, World.cell?_of_block (w := w) (hold b (h.Mlt b o hm))⟩
  out := fun b hb _ => hold b hb
  new := fun b ⟨i, g', hg', hb⟩ => by
    rw [getElem?_snoc] at hg'
    by_cases hi : i < G.length
    · rw [if_pos hi] at hg'; exact .inl ⟨i, g', hg', hb⟩
    · rw [if_neg hi] at hg'
      by_cases h2 : i = G.length
      · rw [if_pos h2] at hg'; simp only [Option.some.injEq] at hg'; subst hg'; exact .inr (hfp b hb)
      · rw [if_neg h2] at hg'; cases hg'
  Mnew := fun b o hm => by
    rcases hfr b o hm with hx | hx
    · exact .inl hx
    · exact .inr (.inr hx)

/-- An entry is written: its own blocks alone turn. -/
theorem St_set {i : Nat} {g g' : Gh} {e : Ent} (h : St w M G H) (hg : G[i]? = some g) (hcore : g'.core = g.core) (hfp : ∀ b, g'.fp b → g.fp b) (hsz : w.heap.size ≤ w'.heap.size)
    (hold : ∀ b, b < w.heap.size → ¬ g.fp b → w'.heap[b]? = w.heap[b]?) (hle : Le w M w' M') (hfr : ∀ b o, M' b o → M b o ∨ (g.fp b ∧ ∀ v, w'.cell? ⟨b, o, none⟩ = some v → v.oneCell' = true)) (he : EntOK w' M' (G.set i g') g' e) : St w' M' (G.set i g') (H.set i e) := by
  have hi := (List.getElem?_eq_some_iff.1 hg).1
  have hcc : ∀ (j : Nat) (g₀ : Gh), G[j]? = some g₀ → ∃ g₁ : Gh, (G.set i g')[j]? = some g₁ ∧ g₁.core = g₀.core := fun j g₀ hj => by
    by_cases hji : i = j
    · subst hji
      rw [hg] at hj; cases hj
      exact ⟨g', by simp [hi], hcore⟩
    · exact ⟨g₀, by rw [List.getElem?_set_ne hji]; exact hj, rfl⟩
  have hget : ∀ (j : Nat) (g₁ : Gh), (G.set i g')[j]? = some g₁ → (j = i ∧ g₁ = g') ∨ (j ≠ i ∧ G[j]? = some g₁) := fun j g₁ hj => by
    by_cases hji : i = j
    · subst hji; simp [hi] at hj; exact .inl ⟨rfl, hj.symm⟩
    · rw [List.getElem?_set_ne hji] at hj; exact .inr ⟨Ne.symm hji, hj⟩
  refine St_of h (by simp [h.len]) (fun j g₁ e₁ hg₁ he₁ => ?_) hcc (fun j k g₁ g₂ b h1 h2 h3 h4 => ?_) (fun j g₁ b h1 h2 => ?_) (fun b o hm => ?_)
    (fun b o v hm hv => by
      rcases hfr b o hm with hx | hx
      · exact h.one b o v hx ((hle b o hx).2 ▸ hv)
      · exact hx.2 v hv)
  · rcases hget j g₁ hg₁ with ⟨rfl, rfl⟩ | ⟨hji, hgj⟩
    · have hlt : j < H.length := by rw [← h.len]; exact hi
      simp [hlt] at he₁
      subst he₁
      exact .inr he
    · rw [List.getElem?_set_ne (Ne.symm hji)] at he₁
      have hnot : ∀ b, g₁.fp b → ¬ g.fp b := fun b hb hc => hji (h.dj j i g₁ g b hgj hg hb hc)
      refine .inl ⟨hgj, he₁, fun b hb => hold b (h.lt j g₁ b hgj hb) (hnot b hb), hle, fun b o hb hm => ?_, hsz⟩
      rcases hfr b o hm with hx | hx
      · exact hx
      · exact absurd hx.1 (hnot b hb)
  · rcases hget j g₁ h1 with ⟨rfl, rfl⟩ | ⟨hji, hgj⟩ <;> rcases hget k g₂ h2 with ⟨rfl, rfl⟩ | ⟨hki, hgk⟩
    · rfl
    · exact absurd (h.dj _ _ _ _ b hgk hg h4 (hfp b h3)) hki
    · exact absurd (h.dj _ _ _ _ b hgj hg h3 (hfp b h4)) hji
    · exact h.dj _ _ _ _ b hgj hgk h3 h4
  · rcases hget j g₁ h1 with ⟨rfl, rfl⟩ | ⟨hji, hgj⟩
    · exact Nat.lt_of_lt_of_le (h.lt _ _ b hg (hfp b h2)) hsz
    · exact Nat.lt_of_lt_of_le (h.lt _ _ b hgj h2) hsz
  · rcases hfr b o hm with hx | hx
    · exact Nat.lt_of_lt_of_le (h.Mlt b o hx) hsz
    · exact Nat.lt_of_lt_of_le (h.lt _ _ b hg hx.1) hsz

theorem Ext_set {i : Nat} {g g' : Gh} (h : St w M G H) (hg : G[i]? = some g) (hcore : g'.core = g.core) (hfp : ∀ b, g'.fp b → g.fp b) (hos : w'.os = w.os) (htape : w'.tape = w.tape) (hout : w'.output = w.output)
    (hsz : w.heap.size ≤ w'.heap.size) (hold : ∀ b, b < w.heap.size → ¬ g.fp b → w'.heap[b]? = w.heap[b]?) (hle : Le w M w' M') (hfr : ∀ b o, M' b o → M b o ∨ (g.fp b)) : Ext w M G w' M' (G.set i g') where
  os := hos
  tape := htape
  output := hout
  size := hsz
  core := fun j g₀ hj => by
    have hi := (List.getElem?_eq_some_iff.1 hg).1
    by_cases hji : i = j
    · subst hji
      rw [hg] at hj; cases hj
      exact ⟨g', by simp [hi], hcore⟩
    · exact ⟨g₀, by rw [List.getElem?_set_ne hji]; exact hj, rfl⟩
  le := hle
  out := fun b hb hn => hold b hb (fun hc => hn ⟨i, g, hg, hc⟩)
  new := fun b ⟨j, g₁, hj, hb⟩ => by
    have hi := (List.getElem?_eq_some_iff.1 hg).1
    by_cases hji : i = j
    · subst hji; simp [hi] at hj; subst hj; exact .inl ⟨i, g, hg, hfp b hb⟩
    · rw [List.getElem?_set_ne hji] at hj; exact .inl ⟨j, g₁, hj, hb⟩
  Mnew := fun b o hm => by
    rcases hfr b o hm with hx | hx
    · exact .inl hx
    · exact .inr (.inl ⟨i, g, hg, hx⟩)

/-- Only the count of draws has gone on, or cells have become immutable in blocks that are new. -/
theorem St_same (h : St w M G H) (hsz : w.heap.size ≤ w'.heap.size) (hold : ∀ b, b < w.heap.size → w'.heap[b]? = w.heap[b]?) (hle : ∀ b o, M b o → M' b o)
    (hfr : ∀ b o, M' b o → M b o ∨ (w.heap.size ≤ b ∧ b < w'.heap.size ∧ ∀ v, w'.cell? ⟨b, o, none⟩ = some v → v.oneCell' = true)) : St w' M' G H := by
  have hLe : Le w M w' M' := fun b o hm => ⟨hle b o hm, World.cell?_of_block (w := w) (hold b (h.Mlt b o hm))⟩
  refine St_of h h.len (fun i g e hg he => .inl ⟨hg, he, fun b hb => hold b (h.lt i g b hg hb), hLe, fun b o hb hm => ?_, hsz⟩) (fun i g hg => ⟨g, hg, rfl⟩) h.dj
    (fun i g b hg hb => Nat.lt_of_lt_of_le (h.lt i g b hg hb) hsz) (fun b o hm => ?_)
    (fun b o v hm hv => by
      rcases hfr b o hm with hx | hx
      · exact h.one b o v hx ((hLe b o hx).2 ▸ hv)
      · exact hx.2.2 v hv)
  · rcases hfr b o hm with hx | hx
    · exact hx
    · have := h.lt i g b hg hb; omega
  · rcases hfr b o hm with hx | hx
    · exact Nat.lt_of_lt_of_le (h.Mlt b o hx) hsz
    · exact hx.2.1
theorem Ext_same (h : St w M G H) (hos : w'.os = w.os) (htape : w'.tape = w.tape) (hout : w'.output = w.output) (hsz : w.heap.size ≤ w'.heap.size) (hold : ∀ b, b < w.heap.size → w'.heap[b]? = w.heap[b]?)
    (hle : ∀ b o, M b o → M' b o) (hfr : ∀ b o, M' b o → M b o ∨ (w.heap.size ≤ b ∧ b < w'.heap.size)) : Ext w M G w' M' G where
  os := hos
  tape := htape
  output := hout
  size := hsz
  core := fun i g hg => ⟨g, hg, rfl⟩
  le := fun b o hm => ⟨hle b o hm, World.cell?_of_block (w := w) (hold b (h.Mlt b o hm))⟩
  out := fun b hb _ => hold b hb
  new := fun b hb => .inl hb
  Mnew := fun b o hm => by
    rcases hfr b o hm with hx | hx
    · exact .inl hx
    · exact .inr (.inr hx.1)

theorem St.drew (h : St w M G H) : St w.drew M G H := St_same h (Nat.le_refl _) (fun _ _ => rfl) (fun _ _ h => h) (fun _ _ h => .inl h)
theorem Ext.drew (h : St w M G H) : Ext w M G w.drew M G := Ext_same h rfl rfl rfl (Nat.le_refl _) (fun _ _ => rfl) (fun _ _ h => h) (fun _ _ h => .inl h)
end
end Go.V
