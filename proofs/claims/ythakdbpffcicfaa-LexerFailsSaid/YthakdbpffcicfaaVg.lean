
/-
  The value logic, part g: literals, and the rest of the operations that yield a value.
-/
import Derived.Test.YthakdbpffcicfaaVf
namespace Go.V
open Go Go.RowKit
set_option linter.unusedVariables false
set_option linter.unusedSimpArgs false

section
variable {P : Program} {w : World} {M : Nat → Nat → Prop} {G : List Gh} {H : List Ent} {n : Nat} {af : AF} {a : Act} {k : AV → Prop}

theorem yd_un {o : Oper} {op : UnOp} {t : TypeId} {x : Operand} {y : Opd} (ho : o.op = .unOp op t x) (hy : cO x = some y) (hr : RelF w M G n af a) (h : (evv af H (.un op y)).bnd k) : Yd P w M G a o k := by
  have hv := cO_sound hy hr
  refine Yd.of (s := Op.unary op (a.eval x)) (by simp only [execOp, ho]) ?_
  simp only [evv] at h
  cases hg : gt af y <;> simp only [hg, unv, Rs.bnd] at h <;> rw [hg] at hv <;> simp only [VR] at hv
  · cases op <;> simp only [Rs.bnd] at h
    exact ⟨_, _, h, rfl, by rw [hv]; simp [Op.unary]⟩
  · obtain ⟨hv, hw⟩ := hv
    cases op <;> simp only [Rs.bnd] at h
    exact ⟨_, _, h, ⟨rfl, wf_wrap _ _⟩, by rw [hv]; simp [Op.unary, Op.intArith]⟩

theorem yd_ext {o : Oper} {x : Operand} {y : Opd} {i : Nat} (ho : o.op = .extract x i) (hy : cO x = some y) (hr : RelF w M G n af a) (h : (evv af H (.ext y i)).bnd k) : Yd P w M G a o k := by
  have hv := cO_sound hy hr
  refine Yd.of (s := Instr.extract (a.eval x) i) (by simp only [execOp, ho]) ?_
  simp only [evv] at h
  cases hg : gt af y <;> simp only [hg, extv, Rs.bnd] at h
  rw [hg] at hv
  obtain ⟨vs, he, hvs⟩ := hv
  obtain ⟨z, h1, h2⟩ := VRs_getD hvs h.1
  refine ⟨_, z, h.2, h2, ?_⟩
  simp [Instr.extract, he, h1]

theorem yd_nck {o : Oper} {x : Operand} {y : Opd} (ho : o.op = .nilCheck x) (hy : cO x = some y) (hr : RelF w M G n af a) (h : (evv af H (.nck y)).bnd k) : Yd P w M G a o k := by
  have hv := cO_sound hy hr
  simp only [evv] at h
  cases hg : gt af y <;> simp only [hg, nckv, Rs.bnd] at h <;> rw [hg] at hv
  · obtain ⟨g, h1, h2⟩ := hv
    exact ⟨_, _, h, ⟨g, h1, rfl⟩, by simp [execOp, ho, h2]⟩
  · obtain ⟨ad, cap, us, h1, h2, h3, h4⟩ := hv
    exact ⟨_, _, h, ⟨ad, cap, us, h1, h2, h3, rfl⟩, by simp [execOp, ho, h4]⟩
  · obtain ⟨g, h1, h2⟩ := hv
    exact ⟨_, _, h, ⟨g, h1, rfl⟩, by simp [execOp, ho, h2]⟩
  · obtain ⟨xs, ys, h1, h2, h3⟩ := hv
    exact ⟨_, _, h, ⟨xs, ys, h1, h2, rfl⟩, by simp [execOp, ho, h3]⟩

theorem yd_cvi {o : Oper} {s d : TypeId} {kk kk' : IntKind} {x : Operand} {y : Opd} (ho : o.op = .convert s d x) (hs : P.underlying s = some (.int kk')) (hd : P.underlying d = some (.int kk)) (hy : cO x = some y) (hr : RelF w M G n af a)
    (h : (evv af H (.cvi kk y)).bnd k) : Yd P w M G a o k := by
  have hv := cO_sound hy hr
  refine Yd.of (s := convert s d (a.eval x)) (by simp only [execOp, ho]) ?_
  simp only [evv] at h
  cases hg : gt af y <;> simp only [hg, cviv, Rs.bnd] at h
  rw [hg] at hv
  exact ⟨_, _, h, ⟨rfl, wf_wrap _ _⟩, by rw [hv.1]; simp [convert, run_underlying hs, run_underlying hd, Conv.intToInt]⟩

theorem yd_cvs {o : Oper} {s d : TypeId} {x : Operand} {y : Opd} (ho : o.op = .convert s d x) (hs : P.underlying s = some .string) (hd : P.underlying d = some .string) (hy : cO x = some y) (hr : RelF w M G n af a)
    (h : (evv af H (.cvs y)).bnd k) : Yd P w M G a o k := by
  have hv := cO_sound hy hr
  refine Yd.of (s := convert s d (a.eval x)) (by simp only [execOp, ho]) ?_
  simp only [evv] at h
  cases hg : gt af y <;> simp only [hg, cvsv, Rs.bnd] at h
  rw [hg] at hv
  exact ⟨_, _, h, ⟨rfl, hv.2⟩, by rw [hv.1]; simp [convert, run_underlying hs, run_underlying hd]⟩

theorem yd_mki {o : Oper} {t : TypeId} {d : TypeDesc} {x : Operand} {y : Opd} {c : Co} (ho : o.op = .makeInterface t x) (hu : P.underlying t = some d) (hd : ∀ ms, d ≠ .interface ms) (hy : cO x = some y) (hst : St w M G H) (hr : RelF w M G n af a)
    (h : (evv af H (.mki t y c)).bnd k) : Yd P w M G a o k := by
  have hv := cO_sound hy hr
  refine Yd.of (s := Instr.makeInterface t (a.eval x)) (by simp only [execOp, ho]) ?_
  simp only [evv, Rs.bnd] at h
  refine ⟨_, _, h, ⟨a.eval x, co_sound hst c _ _ hv, rfl⟩, ?_⟩
  simp only [Instr.makeInterface, Sem.run_bind, run_underlying hu, Result.andThen_ok]
  cases d <;> first | rfl | exact absurd rfl (hd _)

theorem run_zeroValue {t : TypeId} {z : Value} (h : (P.info? t).bind (·.zero) = some z) : (zeroValue t).run P w = .ok z w := by
  cases hi : P.info? t with
  | none => simp [hi] at h
  | some i => simp [hi] at h; simp [zeroValue, typeInfo, hi, h]
theorem zeroT_sound {t : TypeId} {z : AV} (h : zeroT P t = some z) : ∃ v, (zeroValue t).run P w = .ok v w ∧ VR w M G z v ∧ z.flat := by
  unfold zeroT at h
  split at h
  · rename_i v hv
    exact ⟨v, run_zeroValue hv, ofW_sound h⟩
  · cases h

theorem yd_tya {o : Oper} {t st : TypeId} {d : TypeDesc} {x : Operand} {y : Opd} {z : AV} (ho : o.op = .typeAssert x st t true) (hu : P.underlying t = some d) (hd : ∀ ms, d ≠ .interface ms) (hz : zeroT P t = some z) (hy : cO x = some y) (hr : RelF w M G n af a)
    (h : (evv af H (.tya t z y)).bnd k) : Yd P w M G a o k := by
  have hv := cO_sound hy hr
  obtain ⟨zv, hz1, hz2, _⟩ := zeroT_sound (w := w) (M := M) (G := G) hz
  refine Yd.of (s := Instr.typeAssert (a.eval x) st t true) (by simp only [execOp, ho]) ?_
  simp only [evv] at h
  cases hg : gt af y <;> simp only [hg, tyav, Rs.bnd] at h <;> rw [hg] at hv
  · simp only [VR] at hv
    refine ⟨_, .tuple #[zv, .bool false], h, ⟨[zv, .bool false], rfl, zv, _, rfl, hz2, _, _, rfl, rfl, rfl⟩, ?_⟩
    simp only [Instr.typeAssert, Sem.run_bind, run_underlying hu, Result.andThen_ok, hv]
    cases d <;> first | exact absurd rfl (hd _) | simp [hz1]
  · rename_i t' v
    obtain ⟨yv, h1, h2⟩ := hv
    by_cases htt : t' = t
    · rw [if_pos htt] at h
      simp only [Rs.bnd] at h
      refine ⟨_, .tuple #[yv, .bool true], h, ⟨[yv, .bool true], rfl, yv, _, rfl, h1, _, _, rfl, rfl, rfl⟩, ?_⟩
      simp only [Instr.typeAssert, Sem.run_bind, run_underlying hu, Result.andThen_ok, h2]
      cases d <;> first | exact absurd rfl (hd _) | simp [htt]
    · rw [if_neg htt] at h
      simp only [Rs.bnd] at h
      refine ⟨_, .tuple #[zv, .bool false], h, ⟨[zv, .bool false], rfl, zv, _, rfl, hz2, _, _, rfl, rfl, rfl⟩, ?_⟩
      simp only [Instr.typeAssert, Sem.run_bind, run_underlying hu, Result.andThen_ok, h2]
      cases d <;> first | exact absurd rfl (hd _) | simp [htt, hz1]

/-! ### Literals -/

theorem take_mid {α : Type} (A B : List α) (c : α) {p : Nat} (h : A.length = p) : (A ++ c :: B).take (p + 1) = A ++ [c] ∧ ∀ q, (A ++ c :: B).drop (p + 1 + q) = B.drop q := by
  subst h
  constructor
  · rw [List.take_append, List.take_of_length_le (by omega), show A.length + 1 - A.length = 1 by omega]; rfl
  · intro q
    rw [List.drop_append, List.drop_of_length_le (by omega), show A.length + 1 + q - A.length = q + 1 by omega]; rfl

theorem fold_set (l : List Value) (off : Nat) : ∀ (j : Nat) (cells : Array Value), off + j + l.length ≤ cells.size →
    ((l.zipIdx j).foldl (fun cs (c, j) => cs.setIfInBounds (off + j) c) cells).toList = cells.toList.take (off + j) ++ (l ++ cells.toList.drop (off + j + l.length)) := by
  induction l with
  | nil => intro j cells h; simp
  | cons c l ih =>
    intro j cells h
    simp only [List.zipIdx_cons, List.foldl_cons]
    rw [ih (j + 1) _ (by simp at h ⊢; omega)]
    simp only [List.length_cons] at h
    simp only [Array.toList_setIfInBounds, List.length_cons]
    have h1 : off + j < cells.toList.length := by simp; omega
    have hs : cells.toList.set (off + j) c = cells.toList.take (off + j) ++ c :: cells.toList.drop (off + j + 1) := by rw [List.set_eq_take_append_cons_drop, if_pos h1]
    have hA : (cells.toList.take (off + j)).length = off + j := by rw [List.length_take]; omega
    rw [hs, show off + (j + 1) = off + j + 1 by omega, (take_mid _ _ _ hA).1, (take_mid _ _ _ hA).2 l.length, List.drop_drop]
    simp only [List.append_assoc, List.nil_append, List.cons_append]
    rw [show off + j + 1 + l.length = off + j + (l.length + 1) by omega]

theorem fill_step {place : Nat → Option (Nat × Nat)} {i off m : Nat} {v : Value} {rest : List (Nat × Value)} {cells : Array Value} (hp : place i = some (off, m)) (hv : v.cells.size = m) (ho : off + m ≤ cells.size) :
    ∃ c' : Array Value, Instr.fill place cells ((i, v) :: rest) = Instr.fill place c' rest ∧ c'.toList = cells.toList.take off ++ (v.cells.toList ++ cells.toList.drop (off + m)) := by
  refine ⟨v.cells.zipIdx.foldl (fun cs (c, j) => cs.setIfInBounds (off + j) c) cells, ?_, ?_⟩
  · rw [Instr.fill, hp]
    have : ¬ ((v.cells.size ≠ m || decide (off + v.cells.size > cells.size)) = true) := by simp [hv]; omega
    simp only [this, if_false, Bool.false_eq_true]
  · have := fold_set v.cells.toList off 0 cells (by simp [hv]; omega)
    rw [← Array.foldl_toList, Array.toList_zipIdx]
    simpa [hv] using this

theorem bldv_sound {places : Nat → Option (Nat × Nat)} {place : Nat → Option (Nat × Nat)} (hpl : ∀ i x, places i = some x → place i = some x) : ∀ (parts : List (Nat × Operand)) (l : List (Nat × Nat × Opd)) (zs : List AV) (cells : Array Value),
    cParts P places parts = some l → RelF w M G n af a → VRs w M G zs cells.toList → (bldv af l zs).bnd k →
    ∃ c' v, Instr.fill place cells (parts.map fun (i, x) => (i, a.eval x)) = some c' ∧ k v ∧ VR w M G v (.agg c')
  | [], l, zs, cells, hc, hr, hz, h => by
    simp [cParts] at hc; subst hc
    simp only [bldv, Rs.bnd] at h
    exact ⟨cells, _, rfl, h, cells.toList, by simp, hz⟩
  | (i, x) :: r, l, zs, cells, hc, hr, hz, h => by
    simp only [cParts] at hc
    split at hc
    · rename_i off m b l' h1 h2 h3
      simp at hc; subst hc
      simp only [bldv, Rs.bnd] at h
      obtain ⟨⟨h4, h5, h6⟩, h⟩ := h
      have hv := VR_cells (cO_sound h2 hr) h6
      have hvl := VRs_length hv
      have hzl := VRs_length hz
      have hvs : (a.eval x).cells.size = m := by simpa [h4] using hvl
      have hzl' : cells.size = zs.length := by simpa using hzl
      obtain ⟨c', e1, e2⟩ := fill_step (rest := r.map fun (i, x) => (i, a.eval x)) (hpl i _ h1) hvs (by rw [hzl']; exact h5)
      have hz' : VRs w M G (spl off (gt af b).cells zs) c'.toList := by
        rw [e2, spl, h4]
        exact VRs_append (VRs_take hz off) (VRs_append hv (VRs_drop hz _))
      obtain ⟨c'', v, e3, e4, e5⟩ := bldv_sound hpl r l' _ c' h3 hr hz' h
      exact ⟨c'', v, by simp only [List.map_cons]; rw [e1]; exact e3, e4, e5⟩
    · cases hc

theorem run_mapM_sizes (fs : List Field) (hs : ∀ f ∈ fs, ∃ m, sizeT P f.type = some m) : ∃ l : List (Nat × Nat), (fs.mapM (fun f => do pure (f.offset, ← sizeOf f.type) : Field → Sem (Nat × Nat))).run P w = .ok l w ∧ ∀ (i : Nat) (f : Field) (m : Nat), fs[i]? = some f → sizeT P f.type = some m → l[i]? = some (f.offset, m) := by
  induction fs with
  | nil => exact ⟨[], by simp, by simp⟩
  | cons f fs ih =>
    obtain ⟨m, hm⟩ := hs f (by simp)
    obtain ⟨l, h1, h2⟩ := ih (fun g hg => hs g (by simp [hg]))
    refine ⟨(f.offset, m) :: l, ?_, ?_⟩
    · simp only [List.mapM_cons, Sem.run_bind, run_sizeOf hm, Result.andThen_ok, Sem.run_pure, h1]
    · intro i g m' hi hg
      cases i with
      | zero => simp at hi; subst hi; rw [hm] at hg; cases hg; simp
      | succ i => simp at hi; simpa using h2 i g m' hi hg

theorem yd_bld {o : Oper} {t : TypeId} {parts : Array (Nat × Operand)} {zs : List AV} {l : List (Nat × Nat × Opd)} (ho : o.op = .build t parts) (hz : zeroT P t = some (.agg zs)) (hl : cParts P (placesT P t) parts.toList = some l)
    (hsz : sizesOK P t = true) (hr : RelF w M G n af a) (h : (evv af H (.bld zs l)).bnd k) : Yd P w M G a o k := by
  obtain ⟨zv, hz1, hz2, _⟩ := zeroT_sound (w := w) (M := M) (G := G) hz
  obtain ⟨vs, rfl, hzv⟩ := hz2
  refine Yd.of (s := Instr.build t (parts.map fun (i, x) => (i, a.eval x))) (by simp only [execOp, ho]) ?_
  simp only [evv] at h
  have hpt : (parts.map fun (i, x) => (i, a.eval x)).toList = parts.toList.map fun (i, x) => (i, a.eval x) := by simp
  unfold sizesOK at hsz
  cases hu : P.underlying t with
  | none => simp [hu] at hsz
  | some d =>
    cases d <;> simp only [hu, Bool.false_eq_true] at hsz
    case struct fs =>
      obtain ⟨sl, hs1, hs2⟩ := run_mapM_sizes (P := P) (w := w) fs.toList (fun f hf => Option.isSome_iff_exists.1 (List.all_eq_true.1 hsz f hf))
      obtain ⟨c', v, e1, e2, e3⟩ := bldv_sound (places := placesT P t) (place := (sl.toArray[·]?)) (fun i x hx => by
        simp only [placesT, hu] at hx
        split at hx
        · rename_i f hf
          simp at hx
          obtain ⟨m, hm, rfl⟩ := hx
          simpa using hs2 i f m (by simpa using hf) hm
        · cases hx) parts.toList l zs vs.toArray hl hr (by simpa using hzv) h
      refine ⟨v, _, e2, e3, ?_⟩
      have hmap : (fs.mapM (fun f => do pure (f.offset, ← sizeOf f.type) : Field → Sem (Nat × Nat))).run P w = .ok sl.toArray w := by
        rw [Array.mapM_eq_mapM_toList, Sem.run_map, hs1]
        rfl
      simp only [Instr.build, Sem.run_bind, hz1, Result.andThen_ok, run_underlying hu, hmap, Value.cells, hpt, e1, Sem.run_pure]
    case array len e =>
      obtain ⟨m, hm⟩ := Option.isSome_iff_exists.1 hsz
      obtain ⟨c', v, e1, e2, e3⟩ := bldv_sound (places := placesT P t) (place := fun i => some (i * m, m)) (fun i x hx => by
        simp only [placesT, hu, hm] at hx
        simpa using hx) parts.toList l zs vs.toArray hl hr (by simpa using hzv) h
      refine ⟨v, _, e2, e3, ?_⟩
      simp only [Instr.build, Sem.run_bind, hz1, Result.andThen_ok, run_underlying hu, run_sizeOf hm, Value.cells, hpt, e1, Sem.run_pure]
end
end Go.V
