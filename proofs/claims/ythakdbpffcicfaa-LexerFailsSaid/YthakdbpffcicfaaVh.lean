
/-
  The value logic, part h: the operations that make or write memory.
-/
import Derived.Test.YthakdbpffcicfaaVg
namespace Go.V
open Go Go.RowKit
set_option linter.unusedVariables false
set_option linter.unusedSimpArgs false

section
variable {P : Program} {w : World} {M : Nat → Nat → Prop} {G : List Gh} {H : List Ent} {n : Nat} {af : AF} {a : Act} {k : AV → List Ent → Prop}

theorem heap_alloc_new (w : World) (o : Obj) : (w.alloc o).heap[w.heap.size]? = some o := by
  show (w.heap.push o)[w.heap.size]? = _
  rw [Array.getElem?_push, if_pos rfl]

/-- The operation goes through: what it yields, what is there behind it. -/
def Do (P : Program) (w : World) (M : Nat → Nat → Prop) (G : List Gh) (a : Act) (o : Oper) (k : AV → List Ent → Prop) : Prop :=
  ∃ v H' x w' M' G', k v H' ∧ Ext w M G w' M' G' ∧ St w' M' G' H' ∧ VR w' M' G' v x ∧ ((execOp a.eval o).run P w = .ok (.value x) w' ∨ ((execOp a.eval o).run P w = .ok .skip w' ∧ x = undef))

theorem Do.of {o : Oper} {s : Sem Value} (he : execOp a.eval o = (do pure (.value (← s))))
    (h : ∃ v H' x w' M' G', k v H' ∧ Ext w M G w' M' G' ∧ St w' M' G' H' ∧ VR w' M' G' v x ∧ s.run P w = .ok x w') : Do P w M G a o k := by
  obtain ⟨v, H', x, w', M', G', h1, h2, h3, h4, h5⟩ := h
  exact ⟨v, H', x, w', M', G', h1, h2, h3, h4, .inl (by rw [he]; simp only [Sem.run_bind, h5, Result.andThen_ok, Sem.run_pure])⟩

theorem Do.of_yd {o : Oper} {k' : AV → Prop} (hst : St w M G H) (h : Yd P w M G a o k') (hk : ∀ v, k' v → k v H) : Do P w M G a o k := by
  obtain ⟨v, x, h1, h2, h3⟩ := h
  exact ⟨v, H, x, w, M, G, hk v h1, Ext.refl _ _ _, hst, h2, .inl h3⟩

/-- A new block of the activation's own. -/
theorem push_blk (hst : St w M G H) {cs : List AV} {vs : List Value} {t : TypeId} (hv : VRs w M G cs vs) :
    ∃ g : Gh, g.blk = w.heap.size ∧ St (w.alloc (.cells vs.toArray t)) M (G ++ [g]) (H ++ [.blk cs]) ∧ Ext w M G (w.alloc (.cells vs.toArray t)) M (G ++ [g]) := by
  refine ⟨{ blk := w.heap.size, fp := fun b => b = w.heap.size }, rfl, ?_, ?_⟩
  · refine St_push hst (by simp) (fun b hb => Below.heap_alloc _ _ _ hb) (fun _ _ h => h) (fun _ _ h => .inl h) (fun b o h => by have := hst.Mlt b o h; simp; omega) (fun b hb => by subst hb; simp) ?_
    refine ⟨fun b => Iff.rfl, ⟨vs, t, heap_alloc_new _ _, ?_⟩, fun o hm => by have := hst.Mlt _ o hm; simp at this⟩
    exact VRs_mono (core_snoc G _) (fun b o hm => ⟨hm, World.cell?_of_block (w := w) (Below.heap_alloc _ _ _ (hst.Mlt b o hm))⟩) hv
  · exact Ext_push hst rfl rfl rfl (by simp) (fun b hb => Below.heap_alloc _ _ _ hb) (fun _ _ h => h) (fun _ _ h => .inl h) (fun b hb => by subst hb; exact Nat.le_refl _)

theorem run_newVar {t : TypeId} {v : Value} : (newVar t v).run P w = .ok ⟨w.heap.size, 0, none⟩ (w.alloc (.cells v.cells t)) := by
  simp [newVar, newRow]

theorem do_box {o : Oper} {t : TypeId} {x : Operand} {y : Opd} (ho : o.op = .box t x) (hy : cO x = some y) (hst : St w M G H) (hr : RelF w M G n af a) (h : (evi af H (.box y)).bnd fun p => k p.1 p.2) : Do P w M G a o k := by
  refine Do.of (s := Instr.box t (a.eval x)) (by simp only [execOp, ho]) ?_
  simp only [evi, boxv, Rs.bnd] at h
  obtain ⟨h1, h⟩ := h
  have hv := VR_cells (cO_sound hy hr) (by rcases h1 with h1 | h1 <;> simp [h1])
  obtain ⟨g, hg, h2, h3⟩ := push_blk (t := t) hst hv
  rw [Array.toArray_toList] at h2 h3
  refine ⟨_, _, .pointer (some ⟨w.heap.size, 0, none⟩), _, _, _, h, h3, h2, ⟨g, ?_, by rw [hg]⟩, ?_⟩
  · rw [← hst.len, getElem?_snoc]; simp
  · simp only [Instr.box, Sem.run_bind, run_newVar, Result.andThen_ok, Sem.run_pure]

theorem do_alo {o : Oper} {t : TypeId} {z : AV} (ho : o.op = .alloc t) (hz : zeroT P t = some z) (hst : St w M G H) (h : (evi af H (.alo z.cells)).bnd fun p => k p.1 p.2) : Do P w M G a o k := by
  refine Do.of (s := Instr.alloc t true (.tuple #[])) (by simp only [execOp, ho]) ?_
  simp only [evi, Rs.bnd] at h
  obtain ⟨zv, hz1, hz2, hz3⟩ := zeroT_sound (w := w) (M := M) (G := G) hz
  have hv := VR_cells hz2 (by rcases hz3 with h1 | h1 <;> simp [h1])
  obtain ⟨g, hg, h2, h3⟩ := push_blk (t := t) hst hv
  rw [Array.toArray_toList] at h2 h3
  refine ⟨_, _, .pointer (some ⟨w.heap.size, 0, none⟩), _, _, _, h, h3, h2, ⟨g, ?_, by rw [hg]⟩, ?_⟩
  · rw [← hst.len, getElem?_snoc]; simp
  · simp only [Instr.alloc, Sem.run_bind, hz1, run_newVar, Result.andThen_ok, Sem.run_pure]

/-! ### Stores -/

theorem setCell_heap (w : World) (b o : Nat) (v : Value) {vs : List Value} {t : TypeId} {fz : Nat × Nat} (h : w.heap[b]? = some (.cells vs.toArray t fz)) : (w.setCell ⟨b, o, none⟩ v).heap[b]? = some (.cells (vs.set o v).toArray t fz) := by
  simp [World.setCell, Array.getElem?_modify, h]

theorem run_storeCells {b o : Nat} {t : TypeId} : ∀ (us : List Value) (i : Nat) (w : World) (vs : List Value), w.heap[b]? = some (.cells vs.toArray t (0, 0)) → o + i + us.length ≤ vs.length → (∀ u ∈ us, u.oneCell' = true) →
    ∃ w', (storeCells ⟨b, o, none⟩ us i).run P w = .ok () w' ∧ w'.heap[b]? = some (.cells (vs.take (o + i) ++ (us ++ vs.drop (o + i + us.length))).toArray t (0, 0)) ∧ w'.os = w.os ∧ w'.tape = w.tape ∧ w'.output = w.output ∧ w'.heap.size = w.heap.size ∧
      ∀ c, c ≠ b → w'.heap[c]? = w.heap[c]?
  | [], i, w, vs, h, hl, h1 => ⟨w, by simp [storeCells], by simpa using h, rfl, rfl, rfl, rfl, fun _ _ => rfl⟩
  | u :: us, i, w, vs, h, hl, h1 => by
    simp only [List.length_cons] at hl
    have hlt : o + i < vs.length := by omega
    have hc : w.cell? ⟨b, o + i, none⟩ = some vs[o + i] := by rw [cell_of_heap h]; simp [hlt]
    have hf : w.frozen? ⟨b, o + i, none⟩ = false := by simp [World.frozen?, h]
    have hs := setCell_heap w b (o + i) u h
    obtain ⟨w', e1, e2, e3, e4, e5, e6, e7⟩ := run_storeCells (b := b) (o := o) (t := t) us (i + 1) _ _ hs (by simp; omega) (fun v hv => h1 v (by simp [hv]))
    refine ⟨w', ?_, ?_, e3, e4, e5, by rw [e6]; simp, fun c hcb => by rw [e7 c hcb]; exact Below.heap_setCell _ _ _ _ hcb⟩
    · simp only [storeCells, Sem.run_bind, addr_add, run_store P w _ u .plain (h1 u (by simp)), hc, hf, Bool.false_eq_true, if_false, Result.andThen_ok]
      exact e1
    · rw [e2]
      congr 3
      have hset : vs.set (o + i) u = vs.take (o + i) ++ u :: vs.drop (o + i + 1) := by rw [List.set_eq_take_append_cons_drop, if_pos hlt]
      have hA : (vs.take (o + i)).length = o + i := by rw [List.length_take]; omega
      rw [hset, show o + (i + 1) = o + i + 1 by omega, (take_mid _ _ _ hA).1, (take_mid _ _ _ hA).2 us.length, List.drop_drop]
      simp only [List.append_assoc, List.nil_append, List.cons_append, List.length_cons]
      rw [show o + i + 1 + us.length = o + i + (us.length + 1) by omega]

theorem run_storeVar {t tt : TypeId} {b o m : Nat} {v : Value} {vs : List Value} (hm : sizeT P t = some m) (hv : v.cells.size = m) (h : w.heap[b]? = some (.cells vs.toArray tt (0, 0))) (ho : o + m ≤ vs.length) (h1 : ∀ u ∈ v.cells.toList, u.oneCell' = true) :
    ∃ w', (storeVar t ⟨b, o, none⟩ v).run P w = .ok () w' ∧ w'.heap[b]? = some (.cells (vs.take o ++ (v.cells.toList ++ vs.drop (o + m))).toArray tt (0, 0)) ∧ w'.os = w.os ∧ w'.tape = w.tape ∧ w'.output = w.output ∧ w'.heap.size = w.heap.size ∧
      ∀ c, c ≠ b → w'.heap[c]? = w.heap[c]? := by
  have hl : v.cells.toList.length = m := by simpa using hv
  obtain ⟨w', e1, e2, e3⟩ := run_storeCells (P := P) (b := b) (o := o) (t := tt) v.cells.toList 0 w vs h (by omega) h1
  refine ⟨w', ?_, by simpa [hv] using e2, e3⟩
  simp only [storeVar, Sem.run_bind, run_sizeOf hm, Result.andThen_ok, Sem.run_ite, hv, ne_eq, not_true_eq_false, if_false, e1]

theorem stc_sound {m off : Nat} {v : AV} {x : Value} {cs : List AV} {vs : List Value} {kk : List AV → Prop} (hm : 0 < m) (hx : VR w M G v x) (hv : VRs w M G cs vs) (h : (stc m off v cs).bnd kk) :
    ∃ cs', kk cs' ∧ x.cells.size = m ∧ off + m ≤ vs.length ∧ (∀ u ∈ x.cells.toList, u.oneCell' = true) ∧ VRs w M G cs' (vs.take off ++ (x.cells.toList ++ vs.drop (off + m))) ∧ cs'.length = cs.length := by
  have hl := VRs_length hv
  unfold stc at h
  by_cases h1 : m = 1
  · rw [if_pos h1] at h
    simp only [Rs.bnd] at h
    obtain ⟨⟨h2, h3⟩, h⟩ := h
    obtain ⟨h4, h5⟩ := VR_leaf hx h3
    subst h1
    refine ⟨_, h, by simp [h5], by omega, by simp [h5, h4], ?_, by simp⟩
    rw [h5]
    have : vs.take off ++ ([x] ++ vs.drop (off + 1)) = vs.set off x := by rw [List.set_eq_take_append_cons_drop, if_pos (by omega)]; rfl
    simp only [List.toList_toArray]
    rw [this]
    exact VRs_set hv hx off
  · rw [if_neg h1] at h
    simp only [Rs.bnd] at h
    obtain ⟨⟨h2, h3, h4, h5⟩, h⟩ := h
    have hc := VR_cells hx (.inl h2)
    have hcl := VRs_length hc
    refine ⟨_, h, by simpa [h3] using hcl, by omega, VRs_one hc h5, VRs_append (VRs_take hv off) (VRs_append hc (VRs_drop hv _)), ?_⟩
    simp [h3]; omega

theorem agg_cells (cs : Array Value) : (Value.agg cs).cells = cs := rfl

theorem splice_row {us : List Value} {m' kq off' mm : Nat} {u0 u' : Value} {xs T : List Value} (hm : ∀ u ∈ us, u.cells.size = m') (hu0 : us[kq]? = some u0) (hxs : xs.length = mm) (hoff : off' + mm ≤ m')
    (hcells : u'.cells.toList = u0.cells.toList.take off' ++ (xs ++ u0.cells.toList.drop (off' + mm))) :
    (us.flatMap (·.cells.toList) ++ T).take (kq * m' + off') ++ (xs ++ (us.flatMap (·.cells.toList) ++ T).drop (kq * m' + off' + mm)) = (us.set kq u').flatMap (·.cells.toList) ++ T := by
  obtain ⟨hkq, hu⟩ := List.getElem?_eq_some_iff.1 hu0
  have hsp : us = us.take kq ++ u0 :: us.drop (kq + 1) := by rw [← hu]; simp
  have hfl : us.flatMap (·.cells.toList) = (us.take kq).flatMap (·.cells.toList) ++ (u0.cells.toList ++ (us.drop (kq + 1)).flatMap (·.cells.toList)) := by
    conv => lhs; rw [hsp]
    rw [List.flatMap_append, List.flatMap_cons]
  have hfl' : (us.set kq u').flatMap (·.cells.toList) = (us.take kq).flatMap (·.cells.toList) ++ (u'.cells.toList ++ (us.drop (kq + 1)).flatMap (·.cells.toList)) := by
    rw [List.set_eq_take_append_cons_drop, if_pos hkq, List.flatMap_append, List.flatMap_cons]
  have hA : ((us.take kq).flatMap (·.cells.toList)).length = kq * m' := by
    rw [flat_length (fun u hu => hm u (List.mem_of_mem_take hu)), List.length_take, Nat.min_eq_left (by omega)]
  have hU : u0.cells.toList.length = m' := by have := hm u0 (List.mem_of_getElem? hu0); simpa using this
  rw [hfl, hfl', hcells]
  generalize (us.take kq).flatMap (·.cells.toList) = A at *
  generalize (us.drop (kq + 1)).flatMap (·.cells.toList) = B at *
  generalize u0.cells.toList = U at *
  have t1 : (A ++ (U ++ B) ++ T).take (kq * m' + off') = A ++ U.take off' := by
    rw [List.append_assoc, List.take_append, hA, List.take_of_length_le (by omega), show kq * m' + off' - kq * m' = off' by omega, List.append_assoc, List.take_append_of_le_length (by omega)]
  have t2 : (A ++ (U ++ B) ++ T).drop (kq * m' + off' + mm) = U.drop (off' + mm) ++ (B ++ T) := by
    rw [List.append_assoc, List.drop_append, hA, List.drop_of_length_le (by omega), show kq * m' + off' + mm - kq * m' = off' + mm by omega, List.append_assoc, List.drop_append_of_le_length (by omega)]; rfl
  rw [t1, t2]
  simp [List.append_assoc]

theorem row_splice {g : Gh} {m' kq off' mm : Nat} {es : List AV} {e' : AV} {u' : Value} {xs vs us : List Value} {tt : TypeId} {w' : World} (hle : Le w M w' M) (r1 : es.length ≤ g.cap) (r2 : g.cap ≤ maxLen) (r4 : vs.length = g.cap * m')
    (r5 : VRs w M G es us) (r6 : ∀ u ∈ us, u.cells.size = m') (r7 : vs.take (m' * es.length) = us.flatMap (·.cells.toList)) {u0 : Value} (hu0 : us[kq]? = some u0) (he' : VR w M G e' u') (hu' : u'.cells.size = m') (hxs : xs.length = mm) (hoff : off' + mm ≤ m')
    (hcells : u'.cells.toList = u0.cells.toList.take off' ++ (xs ++ u0.cells.toList.drop (off' + mm)))
    (e2 : w'.heap[g.blk]? = some (.cells (vs.take (kq * m' + off') ++ (xs ++ vs.drop (kq * m' + off' + mm))).toArray tt (0, 0))) : RowOK w' M G g m' (es.set kq e') := by
  have hul := VRs_length r5
  have hvs : vs = us.flatMap (·.cells.toList) ++ vs.drop (m' * es.length) := by rw [← r7, List.take_append_drop]
  have hsp := splice_row (T := vs.drop (m' * es.length)) r6 hu0 hxs hoff hcells
  rw [← hvs] at hsp
  rw [hsp] at e2
  have hmem : ∀ u ∈ us.set kq u', u.cells.size = m' := fun u hu => by
    rcases List.mem_or_eq_of_mem_set hu with hu | rfl
    · exact r6 u hu
    · exact hu'
  have hfl := flat_length hmem
  rw [List.length_set] at hfl
  have hmul : m' * es.length = us.length * m' := by rw [hul, Nat.mul_comm]
  have hmul2 : us.length * m' ≤ g.cap * m' := Nat.mul_le_mul_right m' (by omega)
  refine ⟨by simpa using r1, r2, _, tt, us.set kq u', e2, ?_, VRs_mono (fun i g h => ⟨g, h, rfl⟩) hle (VRs_set r5 he' kq), hmem, ?_⟩
  · rw [List.length_append, hfl, List.length_drop, hmul]; omega
  · rw [List.length_set, hmul, ← hfl, List.take_left]

theorem run_storeAt_ptr {t : TypeId} {b o : Nat} {v : Value} : (Instr.storeAt t (.pointer (some ⟨b, o, none⟩)) v).run P w = (storeVar t ⟨b, o, none⟩ v).run P w := by
  simp [Instr.storeAt, Instr.sureAddr]

theorem set_self {α : Type} (l : List α) (i : Nat) (x : α) (h : l[i]? = some x) : l.set i x = l := by
  apply List.ext_getElem?
  intro j
  by_cases hj : i = j
  · subst hj
    have := (List.getElem?_eq_some_iff.1 h).1
    simp [this, h]
    exact ((List.getElem?_eq_some_iff.1 h).2).symm
  · rw [List.getElem?_set_ne hj]

theorem do_st {o : Oper} {t : TypeId} {x z : Operand} {y u : Opd} {m : Nat} {c : Co} (ho : o.op = .store t x z) (hm : sizeT P t = some m) (hm0 : 0 < m) (hy : cO x = some y) (hu : cO z = some u) (hst : St w M G H) (hr : RelF w M G n af a)
    (h : (evi af H (.st m c y u)).bnd fun p => k p.1 p.2) : Do P w M G a o k := by
  have hp := cO_sound hy hr
  have hv := cO_sound hu hr
  have main : ∃ H' w' G', k (.tup []) H' ∧ Ext w M G w' M G' ∧ St w' M G' H' ∧ (Instr.storeAt t (a.eval x) (a.eval z)).run P w = .ok () w' := by
    simp only [evi] at h
    rw [bnd_map] at h
    simp only at h
    generalize gt af u = v at *
    cases hq : gt af y <;> simp only [hq, stv, Rs.bnd] at h <;> rw [hq] at hp
    case ptr i off =>
      obtain ⟨g, hg, hx⟩ := hp
      rw [hx, run_storeAt_ptr]
      cases he : ent H i <;> simp only [he, Rs.bnd] at h
      rename_i cs
      rw [bnd_map] at h
      have hH := ent_get he (by simp)
      obtain ⟨h1, ⟨vs, tt, h2, h3⟩, h4⟩ := hst.ok i g _ hg hH
      obtain ⟨cs', k1, k2, k3, k4, k5, k6⟩ := stc_sound hm0 hv h3 h
      obtain ⟨w', e1, e2, e3, e4, e5, e6, e7⟩ := run_storeVar hm k2 h2 k3 k4
      have hgi := (List.getElem?_eq_some_iff.1 hg).1
      have hGs : G.set i g = G := set_self G i g hg
      have hold : ∀ b, b < w.heap.size → ¬ g.fp b → w'.heap[b]? = w.heap[b]? := fun b _ hb => e7 b (fun hbb => hb ((h1 b).2 hbb))
      have hLe : Le w M w' M := fun b q hq => ⟨hq, World.cell?_of_block (w := w) (e7 b (fun hbb => h4 q (hbb ▸ hq)))⟩
      have hst' : St w' M (G.set i g) (H.set i (.blk cs')) := by
        refine St_set hst hg rfl (fun _ h => h) (by omega) hold hLe (fun _ _ h => .inl h) ?_
        rw [hGs]
        exact ⟨h1, ⟨_, tt, e2, VRs_mono (fun i g h => ⟨g, h, rfl⟩) hLe k5⟩, h4⟩
      have hext : Ext w M G w' M (G.set i g) := Ext_set hst hg rfl (fun _ h => h) e3 e4 e5 (by omega) hold hLe (fun _ _ h => .inl h)
      rw [hGs] at hst' hext
      exact ⟨_, w', G, k1, hext, hst', e1⟩
    case rptr i n' kk off =>
      obtain ⟨g, hg, hx⟩ := hp
      rw [hx, run_storeAt_ptr]
      cases he : ent H i <;> simp only [he, Rs.bnd] at h
      rename_i m' es
      have hH := ent_get he (by simp)
      obtain ⟨h1, ⟨r1, r2, vs, tt, us, r3, r4, r5, r6, r7⟩, h4⟩ := hst.ok i g _ hg hH
      have hul := VRs_length r5
      have hvc := co_sound hst c v _ hv
      have hGs : G.set i g = G := set_self G i g hg
      have fin : ∀ (es' : List AV) (w' : World) (vs' : List Value), w'.heap[g.blk]? = some (.cells vs'.toArray tt (0, 0)) → w'.os = w.os → w'.tape = w.tape → w'.output = w.output → w'.heap.size = w.heap.size → (∀ c, c ≠ g.blk → w'.heap[c]? = w.heap[c]?) →
          (Le w M w' M → RowOK w' M G g m' es') → Ext w M G w' M G ∧ St w' M G (H.set i (.mrow m' es')) := by
        intro es' w' vs' e2 e3 e4 e5 e6 e7 hrow
        have hold : ∀ b, b < w.heap.size → ¬ g.fp b → w'.heap[b]? = w.heap[b]? := fun b _ hb => e7 b (fun hbb => hb ((h1 b).2 hbb))
        have hLe : Le w M w' M := fun b q hq => ⟨hq, World.cell?_of_block (w := w) (e7 b (fun hbb => h4 q (hbb ▸ hq)))⟩
        have hst' : St w' M (G.set i g) (H.set i (.mrow m' es')) :=
          St_set hst hg rfl (fun _ h => h) (by omega) hold hLe (fun _ _ h => .inl h) (by rw [hGs]; exact ⟨h1, hrow hLe, h4⟩)
        have hext : Ext w M G w' M (G.set i g) := Ext_set hst hg rfl (fun _ h => h) e3 e4 e5 (by omega) hold hLe (fun _ _ h => .inl h)
        rw [hGs] at hst' hext
        exact ⟨hext, hst'⟩
      have hcapm : us.length * m' ≤ g.cap * m' := Nat.mul_le_mul_right m' (by omega)
      split at h
      · rename_i h0
        obtain ⟨rfl, rfl⟩ := h0
        simp only [Rs.bnd] at h
        obtain ⟨⟨rfl, hk, hsh⟩, h⟩ := h
        obtain ⟨u0, hu0, _⟩ := VRs_getD r5 hk
        have hsz : (a.eval z).cells.size = m' ∧ ∀ q ∈ (a.eval z).cells.toList, q.oneCell' = true := by
          rcases hsh with ⟨s1, s2, s3⟩ | ⟨s1, s2⟩
          · have hc := VR_cells hvc (.inl s1)
            have := VRs_length hc
            exact ⟨by simpa [s2] using this, VRs_one hc s3⟩
          · obtain ⟨s3, s4⟩ := VR_leaf hvc s2
            exact ⟨by simp [s4, s1], by simp [s4, s3]⟩
        have hprod : kk * m' + m' ≤ us.length * m' := by rw [← Nat.succ_mul]; exact Nat.mul_le_mul_right m' (by omega)
        obtain ⟨w', e1, e2, e3, e4, e5, e6, e7⟩ := run_storeVar (o := kk * m' + 0) hm hsz.1 r3 (by omega) hsz.2
        have hu0s := r6 u0 (List.mem_of_getElem? hu0)
        obtain ⟨f1, f2⟩ := fin (es.set kk (co H c v)) w' _ e2 e3 e4 e5 e6 e7 (fun hle => row_splice (off' := 0) (mm := m') (xs := (a.eval z).cells.toList) hle r1 r2 r4 r5 r6 r7 hu0 hvc hsz.1 (by simpa using hsz.1) (by omega)
          (by rw [List.take_zero, List.drop_of_length_le (by simp; omega)]; simp) e2)
        exact ⟨_, w', G, h, f1, f2, e1⟩
      · simp only [Rs.bnd] at h
        obtain ⟨⟨rfl, hk, hag⟩, h⟩ := h
        rw [bnd_map] at h
        obtain ⟨u0, hu0, hu0v⟩ := VRs_getD r5 hk
        obtain ⟨cs0, vs0, hcs0, rfl, hvs0⟩ := VR_isAgg hu0v hag
        rw [hcs0] at h
        simp only [AV.cells] at h
        obtain ⟨cs', k1, k2, k3, k4, k5, k6⟩ := stc_sound hm0 hvc hvs0 h
        have hu0s : vs0.length = m' := by have := r6 _ (List.mem_of_getElem? hu0); simpa [Value.cells] using this
        have hprod : kk * m' + m' ≤ us.length * m' := by rw [← Nat.succ_mul]; exact Nat.mul_le_mul_right m' (by omega)
        obtain ⟨w', e1, e2, e3, e4, e5, e6, e7⟩ := run_storeVar (o := kk * m' + off) hm k2 r3 (by omega) k4
        obtain ⟨f1, f2⟩ := fin (es.set kk (.agg cs')) w' _ e2 e3 e4 e5 e6 e7 (fun hle => row_splice (off' := off) (mm := m) (u' := .agg (vs0.take off ++ ((a.eval z).cells.toList ++ vs0.drop (off + m))).toArray) (xs := (a.eval z).cells.toList) hle r1 r2 r4 r5 r6 r7 hu0
          ⟨_, rfl, k5⟩ (by rw [agg_cells, List.size_toArray, List.length_append, List.length_append, List.length_take, List.length_drop, show (a.eval z).cells.toList.length = m by simpa using k2]; omega) (by simpa using k2) (by omega) (by rw [agg_cells, agg_cells]) e2)
        exact ⟨_, w', G, k1, f1, f2, e1⟩
  obtain ⟨H', w', G', h1, h2, h3, h4⟩ := main
  refine ⟨_, H', undef, w', M, G', h1, h2, h3, ⟨[], rfl, rfl⟩, .inr ⟨?_, rfl⟩⟩
  simp only [execOp, ho, Sem.run_bind, h4, Result.andThen_ok, Sem.run_pure]
end
end Go.V
