
/-
  The value logic, part d: each operation that yields a value does what its evaluation says.
-/
import Derived.Test.YthakdbpffcicfaaVc
namespace Go.V
open Go Go.RowKit
set_option linter.unusedVariables false
set_option linter.unusedSimpArgs false

section types
variable {P : Program} {w : World} {t : TypeId}

theorem run_underlying {d : TypeDesc} (h : P.underlying t = some d) : (underlying t).run P w = .ok d w := by
  simp [underlying, h]
theorem run_isAgg {g : Bool} (h : aggT P t = some g) : (isAgg t).run P w = .ok g w := by
  unfold aggT at h
  unfold isAgg
  cases hu : P.underlying t with
  | none => simp [hu] at h
  | some d =>
    simp only [Sem.run_bind, run_underlying hu, Result.andThen_ok]
    cases d <;> simp [hu] at h <;> subst h <;> rfl
theorem run_sizeOf {n : Nat} (h : sizeT P t = some n) : (sizeOf t).run P w = .ok n w := by
  unfold sizeT at h
  cases hu : P.info? t with
  | none => simp [hu] at h
  | some i => simp [hu] at h; simp [sizeOf, typeInfo, hu, h]
end types

section
variable {P : Program} {w : World} {M : Nat → Nat → Prop} {G : List Gh} {H : List Ent}

theorem ofV_sound {v : Value} {x : AV} (h : ofV v = some x) : VR w M G x v ∧ x.leaf = true := by
  unfold ofV at h
  split at h <;> simp at h
  all_goals first | (obtain ⟨h1, rfl⟩ := h) | subst h
  all_goals first | (simp [VR, AV.leaf]; done) | skip
  · rename_i k n; exact ⟨by simp [VR, h1], rfl⟩
  · rename_i s; exact ⟨⟨by simp, by have : s.data.toList.length ≤ 4294967296 := by simpa using h1
                                    unfold maxLen; omega⟩, rfl⟩
  · rename_i f first caps
    obtain ⟨h1, h2⟩ := h1
    refine ⟨⟨[], [], by simp [VRs], by simp [VRs], ?_⟩, rfl⟩
    simp [h1, h2]
theorem ofVs_sound {vs : List Value} {xs : List AV} (h : ofVs vs = some xs) : VRs w M G xs vs ∧ xs.all AV.leaf = true := by
  induction vs generalizing xs with
  | nil => simp [ofVs] at h; subst h; simp [VRs]
  | cons v r ih =>
    simp only [ofVs] at h
    split at h
    · rename_i a l ha hl
      simp at h; subst h
      obtain ⟨h1, h2⟩ := ofV_sound (w := w) (M := M) (G := G) ha
      obtain ⟨h3, h4⟩ := ih hl
      exact ⟨⟨v, r, rfl, h1, h3⟩, by simp [h2]; simpa using h4⟩
    · cases h
/-- A value is cells or one cell. -/
def AV.flat (v : AV) : Prop := (v.isAgg = true ∧ v.cells.all AV.leaf = true) ∨ v.leaf = true
theorem ofW_sound {v : Value} {x : AV} (h : ofW v = some x) : VR w M G x v ∧ x.flat := by
  unfold ofW at h
  split at h
  · rename_i cs
    simp at h
    obtain ⟨l, hl, rfl⟩ := h
    obtain ⟨h1, h2⟩ := ofVs_sound (w := w) (M := M) (G := G) hl
    exact ⟨⟨cs.toList, by simp, h1⟩, .inl ⟨rfl, h2⟩⟩
  · obtain ⟨h1, h2⟩ := ofV_sound (w := w) (M := M) (G := G) h
    exact ⟨h1, .inr h2⟩

/-- The deferred calls. -/
def DR (w : World) (M : Nat → Nat → Prop) (G : List Gh) : List AD → List Deferred → Prop
  | [], ds => ds = []
  | .mark i :: l, ds => ∃ (g : Gh) (r : List Deferred), ds = { target := .collected g.cap, args := #[] } :: r ∧ G[i]? = some g ∧ DR w M G l r
  | .dfr f args :: l, ds => ∃ (t : Fn) (first caps : Array Value) (xs : List Value) (r : List Deferred), ds = { target := .fn t caps, args := first ++ xs.toArray } :: r ∧ VR w M G f (.func t first caps) ∧ VRs w M G args xs ∧ DR w M G l r

theorem DR_mono {w' : World} {M' : Nat → Nat → Prop} {G' : List Gh} (hG : ∀ (i : Nat) (g : Gh), G[i]? = some g → ∃ g' : Gh, G'[i]? = some g' ∧ g'.core = g.core)
    (hM : ∀ b o, M b o → M' b o ∧ w'.cell? ⟨b, o, none⟩ = w.cell? ⟨b, o, none⟩) : ∀ {l : List AD} {ds : List Deferred}, DR w M G l ds → DR w' M' G' l ds
  | [], _, h => h
  | .mark i :: l, ds, h => by
    obtain ⟨g, r, h1, h2, h3⟩ := h
    obtain ⟨g', h4, h5⟩ := hG i g h2
    exact ⟨g', r, by rw [h1, (core_eq h5).2.1], h4, DR_mono hG hM h3⟩
  | .dfr f args :: l, ds, h => by
    obtain ⟨t, first, caps, xs, r, h1, h2, h3, h4⟩ := h
    exact ⟨t, first, caps, xs, r, h1, VR_mono hG hM h2, VRs_mono hG hM h3, DR_mono hG hM h4⟩

/-- The frame: every temporary holds what its abstract value says. -/
structure RelF (w : World) (M : Nat → Nat → Prop) (G : List Gh) (n : Nat) (af : AF) (a : Act) : Prop where
  size : a.tmps.size = n
  defers : DR w M G af.dl a.defers
  rd : ∀ t, VR w M G (get af.tm t) (a.tmps.getD t undef)

theorem RelF.ext {n : Nat} {af : AF} {a : Act} {w' : World} {M' : Nat → Nat → Prop} {G' : List Gh} (h : RelF w M G n af a) (e : Ext w M G w' M' G') : RelF w' M' G' n af a :=
  ⟨h.size, DR_mono e.core e.le h.defers, fun t => (h.rd t).ext e⟩

theorem RelF.put {n : Nat} {af : AF} {a : Act} {v : AV} {x : Value} {d : Option Nat} (h : RelF w M G n af a) (hv : VR w M G v x) (hd : d.all (· < n) = true) : RelF w M G n (put af d v) (a.put d x) := by
  cases d with
  | none => exact h
  | some k =>
    simp at hd
    refine ⟨by simp [Act.put, h.size], h.defers, fun t => ?_⟩
    simp only [V.put, get, Act.put]
    by_cases hk : k = t
    · subst hk
      rw [if_pos rfl]
      have : k < a.tmps.size := by rw [h.size]; exact hd
      simp [this]; exact hv
    · rw [if_neg hk]
      have := h.rd t
      simp only [Array.getD_eq_getD_getElem?, Array.getElem?_setIfInBounds_ne hk] at this ⊢
      exact this

variable {n : Nat} {af : AF} {a : Act}

theorem cO_sound {x : Operand} {y : Opd} (h : cO x = some y) (hr : RelF w M G n af a) : VR w M G (gt af y) (a.eval x) := by
  cases x with
  | tmp t => simp [cO] at h; subst h; exact hr.rd t
  | const v => simp [cO] at h; obtain ⟨z, hz, rfl⟩ := h; exact (ofW_sound hz).1
  | global g => simp [cO] at h
  | func f => simp [cO] at h; subst h; exact ⟨[], [], by simp [VRs], by simp [VRs], rfl⟩
theorem cOs_sound {xs : List Operand} {ys : List Opd} (h : cOs xs = some ys) (hr : RelF w M G n af a) : VRs w M G (gts af ys) (xs.map a.eval) := by
  induction xs generalizing ys with
  | nil => simp [cOs] at h; subst h; simp [gts, VRs]
  | cons x r ih =>
    simp only [cOs] at h
    split at h
    · rename_i b l hb hl
      simp at h; subst h
      exact ⟨_, _, rfl, cO_sound hb hr, ih hl⟩
    · cases h

theorem VR_isAgg {v : AV} {x : Value} (h : VR w M G v x) (ha : v.isAgg = true) : ∃ cs : List AV, ∃ vs : List Value, v = .agg cs ∧ x = .agg vs.toArray ∧ VRs w M G cs vs := by
  cases v <;> simp [AV.isAgg] at ha
  rename_i cs
  obtain ⟨vs, rfl, h⟩ := h
  exact ⟨cs, vs, rfl, rfl, h⟩
theorem VR_leaf {v : AV} {x : Value} (h : VR w M G v x) (hl : v.leaf = true) : x.oneCell' = true ∧ x.cells = #[x] := by
  cases v <;> simp [AV.leaf] at hl <;> simp only [VR] at h
  case opq i => obtain ⟨g, _, rfl, h1⟩ := h; refine ⟨h1, ?_⟩; cases hv : g.val <;> simp_all [Value.oneCell', Value.cells]
  all_goals first
    | (subst h; exact ⟨rfl, rfl⟩)
    | (obtain ⟨rfl, _⟩ := h; exact ⟨rfl, rfl⟩)
    | (obtain ⟨_, _, rfl⟩ := h; exact ⟨rfl, rfl⟩)
    | (obtain ⟨_, _, _, _, _, rfl⟩ := h; exact ⟨rfl, rfl⟩)
    | (obtain ⟨_, _, _, _, rfl⟩ := h; exact ⟨rfl, rfl⟩)
    | (obtain ⟨_, _, _, _, _, _, rfl⟩ := h; exact ⟨rfl, rfl⟩)
theorem VR_cells {v : AV} {x : Value} (h : VR w M G v x) (hf : v.isAgg = true ∨ v.leaf = true) : VRs w M G v.cells x.cells.toList := by
  rcases hf with hf | hf
  · obtain ⟨cs, vs, rfl, rfl, h1⟩ := VR_isAgg h hf; simpa [AV.cells, Value.cells] using h1
  · have hc := (VR_leaf h hf).2
    rw [hc]
    have : v.cells = [v] := by cases v <;> simp [AV.leaf] at hf <;> rfl
    rw [this]
    exact ⟨x, [], by simp, h, by simp [VRs]⟩
theorem VRs_one {cs : List AV} {vs : List Value} (h : VRs w M G cs vs) (hl : cs.all AV.leaf = true) : ∀ u ∈ vs, u.oneCell' = true := by
  induction cs generalizing vs with
  | nil => simp only [VRs] at h; subst h; simp
  | cons c cs ih =>
    simp only [VRs] at h
    obtain ⟨v, r, rfl, hv, h⟩ := h
    simp at hl
    intro u hu
    simp at hu
    rcases hu with rfl | hu
    · exact (VR_leaf hv hl.1).1
    · exact ih h (by simpa using hl.2) u hu

theorem addr_add (b o k : Nat) : (⟨b, o, none⟩ : Addr).add k = ⟨b, o + k, none⟩ := by
  unfold Addr.add
  split
  · rename_i h; simp [h]
  · rfl
theorem addr_add' {a : Addr} (h : a.spot = none) (k : Nat) : a.add k = ⟨a.block, a.off + k, none⟩ := by
  cases a; simp at h; subst h; exact addr_add _ _ _

/-- Cells that hold a row are read as that row. -/
theorem run_cells {b o : Nat} {vs : List Value} (h : ∀ j v, vs[j]? = some v → w.cell? ⟨b, o + j, none⟩ = some v) (k m : Nat) (hm : k + m ≤ vs.length) :
    (loadCells ⟨b, o + k, none⟩ m).run P w = .ok ((vs.drop k).take m).toArray w := by
  have hl : ((vs.drop k).take m).length = m := by simp; omega
  have := run_loadCells_list (P := P) w ⟨b, o + k, none⟩ ((vs.drop k).take m) (fun j v hj => by
    rw [addr_add]
    have hjm : j < m := by have := (List.getElem?_eq_some_iff.1 hj).1; omega
    rw [List.getElem?_take_of_lt hjm, List.getElem?_drop] at hj
    have := h (k + j) v hj
    rwa [← Nat.add_assoc] at this)
  rwa [hl] at this

theorem cell_of_heap {b : Nat} {vs : List Value} {t : TypeId} {fz : Nat × Nat} (h : w.heap[b]? = some (.cells vs.toArray t fz)) (j : Nat) : w.cell? ⟨b, j, none⟩ = vs[j]? := by
  simp [World.cell?, h]

theorem VRs_tk {cs : List AV} {vs : List Value} (h : VRs w M G cs vs) (off m : Nat) : VRs w M G (tk off m cs) ((vs.drop off).take m) := VRs_take (VRs_drop h off) m

theorem VRs_getD {cs : List AV} {vs : List Value} (h : VRs w M G cs vs) {i : Nat} (hi : i < cs.length) : ∃ v, vs[i]? = some v ∧ VR w M G (cs.getD i .junk) v := by
  obtain ⟨v, h1, h2⟩ := VRs_get h (List.getElem?_eq_getElem hi)
  exact ⟨v, h1, by simpa [List.getD, List.getElem?_eq_getElem hi] using h2⟩

/-- Reading within a row of cells. -/
theorem ldc_sound {t : TypeId} {g : Bool} {m off b o : Nat} {cs : List AV} {vs : List Value} {k : AV → Prop} (hg : aggT P t = some g) (hm : sizeT P t = some m)
    (hc : ∀ j v, vs[j]? = some v → w.cell? ⟨b, o + j, none⟩ = some v) (hv : VRs w M G cs vs) (h : (ldc g m off cs).bnd k) :
    ∃ v y, k v ∧ VR w M G v y ∧ (loadVar t ⟨b, o + off, none⟩).run P w = .ok y w := by
  have hlen := VRs_length hv
  cases g with
  | true =>
    simp only [ldc, Rs.bnd] at h
    obtain ⟨h1, h2⟩ := h
    refine ⟨_, _, h2, ⟨(vs.drop off).take m, rfl, VRs_tk hv off m⟩, ?_⟩
    simp only [loadVar, Sem.run_bind, run_isAgg hg, Result.andThen_ok, if_true, run_sizeOf hm, run_cells hc off m (by omega), Sem.run_pure]
  | false =>
    simp only [ldc, Rs.bnd] at h
    obtain ⟨h1, h2⟩ := h
    obtain ⟨v, h3, h4⟩ := VRs_getD hv h1
    refine ⟨_, v, h2, h4, ?_⟩
    simp only [loadVar, Sem.run_bind, run_isAgg hg, Result.andThen_ok, Bool.false_eq_true, if_false, run_load, hc off v h3]

theorem flat_get {us : List Value} {m : Nat} (hm : ∀ u ∈ us, u.cells.size = m) {k : Nat} {u : Value} (hu : us[k]? = some u) {j : Nat} {v : Value} (hv : u.cells.toList[j]? = some v) :
    (us.flatMap (·.cells.toList))[k * m + j]? = some v := by
  induction us generalizing k with
  | nil => simp at hu
  | cons x us ih =>
    have hx : x.cells.toList.length = m := by have := hm x (by simp); simpa using this
    rw [List.flatMap_cons]
    cases k with
    | zero =>
      simp at hu; subst hu
      have := (List.getElem?_eq_some_iff.1 hv).1
      rw [List.getElem?_append_left (by omega)]
      simpa using hv
    | succ k =>
      simp at hu
      have := ih (fun u hu => hm u (by simp [hu])) hu
      rw [List.getElem?_append_right (by rw [hx, Nat.add_mul]; omega), hx]
      rw [show (k + 1) * m + j - m = k * m + j by rw [Nat.add_mul]; omega]
      exact this
theorem flat_length {us : List Value} {m : Nat} (hm : ∀ u ∈ us, u.cells.size = m) : (us.flatMap (·.cells.toList)).length = us.length * m := by
  induction us with
  | nil => simp
  | cons x us ih =>
    have hx : x.cells.toList.length = m := by have := hm x (by simp); simpa using this
    rw [List.flatMap_cons, List.length_append, ih (fun u hu => hm u (by simp [hu])), hx, List.length_cons, Nat.add_mul]; omega

/-- Reading an element, or a part of one. -/
theorem lde_sound {t : TypeId} {g : Bool} {m m' off b o : Nat} {e : AV} {u : Value} {k : AV → Prop} (hg : aggT P t = some g) (hm : sizeT P t = some m)
    (hc : ∀ j v, u.cells.toList[j]? = some v → w.cell? ⟨b, o + j, none⟩ = some v) (hv : VR w M G e u) (hs : u.cells.size = m') (h : (lde g m m' off e).bnd k) :
    ∃ v y, k v ∧ VR w M G v y ∧ (loadVar t ⟨b, o + off, none⟩).run P w = .ok y w := by
  cases g with
  | true =>
    simp only [lde] at h
    split at h
    · rename_i h0
      obtain ⟨rfl, rfl⟩ := h0
      simp only [Rs.bnd] at h
      obtain ⟨h1, h2⟩ := h
      obtain ⟨cs, vs, rfl, rfl, h3⟩ := VR_isAgg hv h1
      refine ⟨_, _, h2, hv, ?_⟩
      simp only [Value.cells] at hc hs
      simp only [loadVar, Sem.run_bind, run_isAgg hg, Result.andThen_ok, if_true, run_sizeOf hm, Nat.add_zero]
      have hlen : vs.length = m := by simpa using hs
      have := run_cells (P := P) (b := b) (o := o) (vs := vs) (by simpa using hc) 0 m (by omega)
      rw [Nat.add_zero] at this
      rw [this]
      simp [hlen, List.take_of_length_le]
    · simp only [Rs.bnd] at h
      obtain ⟨⟨h1, h1'⟩, h2⟩ := h
      obtain ⟨cs, vs, rfl, rfl, h3⟩ := VR_isAgg hv h1
      simp only [Value.cells] at hc hs
      refine ⟨_, _, h2, ⟨(vs.drop off).take m, rfl, VRs_tk h3 off m⟩, ?_⟩
      have hlen : vs.length = m' := by simpa using hs
      simp only [loadVar, Sem.run_bind, run_isAgg hg, Result.andThen_ok, if_true, run_sizeOf hm, run_cells (P := P) (b := b) (o := o) (vs := vs) (by simpa using hc) off m (by omega), Sem.run_pure]
  | false =>
    simp only [lde] at h
    cases he : e.isAgg with
    | true =>
      simp only [he, cond_true, Rs.bnd] at h
      obtain ⟨h1, h2⟩ := h
      obtain ⟨cs, vs, rfl, rfl, h3⟩ := VR_isAgg hv he
      simp only [Value.cells, AV.cells] at hc hs h2
      have hlen : vs.length = m' := by simpa using hs
      have hl := VRs_length h3
      obtain ⟨v, h4, h5⟩ := VRs_getD h3 (i := off) (by omega)
      refine ⟨_, v, h2, h5, ?_⟩
      simp only [loadVar, Sem.run_bind, run_isAgg hg, Result.andThen_ok, Bool.false_eq_true, if_false, run_load, hc off v (by simpa using h4)]
    | false =>
      simp only [he, cond_false, Rs.bnd] at h
      obtain ⟨⟨rfl, rfl, h1⟩, h2⟩ := h
      refine ⟨_, u, h2, hv, ?_⟩
      have := (VR_leaf hv h1).2
      rw [this] at hc
      simp only [loadVar, Sem.run_bind, run_isAgg hg, Result.andThen_ok, Bool.false_eq_true, if_false, run_load, hc 0 u (by simp)]

theorem ent_get {i : Nat} {e : Ent} (h : ent H i = e) (he : e ≠ .dead) : H[i]? = some e := by
  induction H generalizing i with
  | nil => simp [ent] at h; exact absurd h.symm he
  | cons x r ih =>
    cases i with
    | zero => simp [ent] at h; simp [h]
    | succ i => simp [ent] at h; simpa using ih h

theorem row_cell {g : Gh} {m : Nat} {es : List AV} (h : RowOK w M G g m es) {k : Nat} (hk : k < es.length) :
    ∃ u, VR w M G (es.getD k .junk) u ∧ u.cells.size = m ∧ ∀ j v, u.cells.toList[j]? = some v → w.cell? ⟨g.blk, k * m + j, none⟩ = some v := by
  obtain ⟨h1, h2, vs, t, us, h3, h4, h5, h6, h7⟩ := h
  obtain ⟨u, h8, h9⟩ := VRs_getD h5 hk
  refine ⟨u, h9, h6 u (List.mem_of_getElem? h8), fun j v hj => ?_⟩
  rw [cell_of_heap h3]
  have := flat_get h6 h8 hj
  rw [← h7] at this
  have hlt := (List.getElem?_eq_some_iff.1 this).1
  simp at hlt
  rwa [List.getElem?_take_of_lt (by omega)] at this

theorem sl_cell {m cap : Nat} {us : List Value} {ad : Addr} {es : List AV} (hv : VRs w M G es us) (h : SlOK w M m us (some ad) cap) {k : Nat} (hk : k < us.length) :
    ∃ u, VR w M G (es.getD k .junk) u ∧ u.cells.size = m ∧ ∀ j v, u.cells.toList[j]? = some v → w.cell? ⟨ad.block, ad.off + (k * m + j), none⟩ = some v := by
  obtain ⟨h1, h2, h3, h4⟩ := h
  obtain ⟨h4, h5⟩ := h4.resolve_left (fun e => by subst e; simp at hk)
  have hl := VRs_length hv
  obtain ⟨u, h8, h9⟩ := VRs_getD hv (i := k) (by omega)
  refine ⟨u, h9, h3 u (List.mem_of_getElem? h8), fun j v hj => ?_⟩
  exact (h5 _ _ (flat_get h3 h8 hj)).1

theorem run_loadAt_ptr {t : TypeId} {b o : Nat} : (Instr.loadAt t (.pointer (some ⟨b, o, none⟩))).run P w = (loadVar t ⟨b, o, none⟩).run P w := by
  simp [Instr.loadAt, Instr.sureAddr]

theorem ldv_sound {t : TypeId} {g : Bool} {m : Nat} {p : AV} {x : Value} {k : AV → Prop} (hst : St w M G H) (hg : aggT P t = some g) (hm : sizeT P t = some m) (hp : VR w M G p x)
    (h : (ldv g m H p).bnd k) : ∃ v y, k v ∧ VR w M G v y ∧ (Instr.loadAt t x).run P w = .ok y w := by
  cases p <;> simp only [ldv, Rs.bnd] at h
  case ptr i off =>
    obtain ⟨g0, hg0, rfl⟩ := hp
    rw [run_loadAt_ptr]
    cases he : ent H i <;> simp only [he, Rs.bnd] at h
    rename_i cs
    have hok := hst.ok i g0 _ hg0 (ent_get he (by simp))
    obtain ⟨h1, ⟨vs, t', h2, h3⟩, h4⟩ := hok
    have := ldc_sound (b := g0.blk) (o := 0) hg hm (vs := vs) (fun j v hj => by rw [cell_of_heap h2]; simpa using hj) h3 h
    simpa using this
  case eptr n' es kk off =>
    obtain ⟨ad, cap, us, h1, h2, h3, rfl⟩ := hp
    rw [run_loadAt_ptr]
    obtain ⟨u, h4, h5, h6⟩ := sl_cell h1 h2 h3
    have := lde_sound (b := ad.block) (o := ad.off + kk * n') hg hm (fun j v hj => by rw [Nat.add_assoc]; exact h6 j v hj) h4 h5 h
    rwa [Nat.add_assoc] at this
  case rptr i n' kk off =>
    obtain ⟨g0, hg0, rfl⟩ := hp
    rw [run_loadAt_ptr]
    cases he : ent H i <;> simp only [he, Rs.bnd] at h
    · rename_i m' es
      obtain ⟨⟨rfl, h0⟩, h⟩ := h
      obtain ⟨_, hrow, _⟩ := hst.ok i g0 _ hg0 (ent_get he (by simp))
      obtain ⟨u, h4, h5, h6⟩ := row_cell hrow h0
      exact lde_sound (b := g0.blk) (o := kk * m') hg hm h6 h4 h5 h
    · rename_i m' es
      obtain ⟨⟨rfl, h0⟩, h⟩ := h
      obtain ⟨_, hrow, _⟩ := hst.ok i g0 _ hg0 (ent_get he (by simp))
      obtain ⟨u, h4, h5, h6⟩ := row_cell hrow h0
      exact lde_sound (b := g0.blk) (o := kk * m') hg hm h6 h4 h5 h

mutual
theorem co_sound (hst : St w M G H) : ∀ (c : Co) (v : AV) (x : Value), VR w M G v x → VR w M G (co H c v) x
  | .id, v, x, h => by cases v <;> exact h
  | .sl n, v, x, h => by
    cases v <;> try exact h
    case nils =>
      simp only [VR] at h; subst h
      simp only [co, VR]
      exact ⟨none, 0, [], by simp [VRs], ⟨by simp, by simp [maxLen], by simp, rfl⟩, rfl⟩
    case lit m es =>
      simp only [co, VR] at h ⊢
      obtain ⟨a, us, h1, h2, rfl⟩ := h
      exact ⟨a, us.length, us, h1, h2, rfl⟩
    case row i len =>
      simp only [co]
      cases he : ent H i <;> try exact h
      rename_i m es
      simp only
      split
      · rename_i hl
        obtain ⟨g, hg, rfl⟩ := h
        obtain ⟨_, ⟨h1, h2, vs, t, us, h3, h4, h5, h6, h7⟩, h8⟩ := hst.ok i g _ hg (ent_get he (by simp))
        have hul := VRs_length h5
        refine ⟨some ⟨g.blk, 0, none⟩, g.cap, us, h5, ⟨by omega, h2, h6, .inr ⟨rfl, fun j v hj => ?_⟩⟩, by rw [hul, hl]⟩
        have hj' : (vs.take (m * es.length))[j]? = some v := by rw [h7]; exact hj
        have hlt := (List.getElem?_eq_some_iff.1 hj').1
        simp at hlt
        rw [List.getElem?_take_of_lt (by omega)] at hj'
        refine ⟨by simp only [Nat.zero_add]; rw [cell_of_heap h3]; exact hj', ?_⟩
        simp only [Nat.zero_add]
        exact (h8 j).2 (by omega)
      · exact h
  | .agg l, v, x, h => by
    cases v <;> try exact h
    rename_i vs
    simp only [co, VR] at h ⊢
    obtain ⟨xs, rfl, h⟩ := h
    exact ⟨xs, rfl, cos_sound hst l vs xs h⟩
theorem cos_sound (hst : St w M G H) : ∀ (l : List Co) (vs : List AV) (xs : List Value), VRs w M G vs xs → VRs w M G (cos H l vs) xs
  | [], vs, xs, h => h
  | _ :: _, [], xs, h => by simpa [cos] using h
  | c :: l, v :: vs, xs, h => by
    simp only [cos, VRs] at h ⊢
    obtain ⟨x, r, rfl, h1, h2⟩ := h
    exact ⟨x, r, rfl, co_sound hst c v x h1, cos_sound hst l vs r h2⟩
end

theorem fadv_sound {off : Nat} {p : AV} {x : Value} {k : AV → Prop} (hp : VR w M G p x) (h : (fadv off p).bnd k) :
    ∃ v b o, k v ∧ VR w M G v (.pointer (some ⟨b, o + off, none⟩)) ∧ x = .pointer (some ⟨b, o, none⟩) := by
  cases p <;> simp only [fadv, Rs.bnd] at h
  · obtain ⟨g, hg, rfl⟩ := hp; exact ⟨_, _, _, h, ⟨g, hg, rfl⟩, rfl⟩
  · obtain ⟨a, cap, us, h1, h2, h3, rfl⟩ := hp; exact ⟨_, _, _, h, ⟨a, cap, us, h1, h2, h3, by rw [Nat.add_assoc, Nat.add_assoc]⟩, rfl⟩
  · obtain ⟨g, hg, rfl⟩ := hp; exact ⟨_, _, _, h, ⟨g, hg, by rw [Nat.add_assoc]⟩, rfl⟩

theorem part_sound {t : TypeId} {g : Bool} {m off : Nat} {cs : List AV} {vs : List Value} {k : AV → Prop} (hg : aggT P t = some g) (hm : sizeT P t = some m) (hv : VRs w M G cs vs) (h : (ldc g m off cs).bnd k) :
    ∃ v y, k v ∧ VR w M G v y ∧ (part t vs.toArray off).run P w = .ok y w := by
  have hlen := VRs_length hv
  cases g with
  | true =>
    simp only [ldc, Rs.bnd] at h
    obtain ⟨h1, h2⟩ := h
    refine ⟨_, _, h2, ⟨(vs.drop off).take m, rfl, VRs_tk hv off m⟩, ?_⟩
    simp only [part, Sem.run_bind, run_isAgg hg, Result.andThen_ok, if_true, run_sizeOf hm, Sem.run_pure]
    simp [List.drop_take]
  | false =>
    simp only [ldc, Rs.bnd] at h
    obtain ⟨h1, h2⟩ := h
    obtain ⟨v, h3, h4⟩ := VRs_getD hv h1
    refine ⟨_, v, h2, h4, ?_⟩
    simp only [part, Sem.run_bind, run_isAgg hg, Result.andThen_ok, Bool.false_eq_true, if_false]
    simp [h3]
end
end Go.V
