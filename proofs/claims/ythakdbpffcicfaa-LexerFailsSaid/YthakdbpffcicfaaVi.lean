
/-
  The value logic, part i: rows: literals of slices, make, append.
-/
import Derived.Test.YthakdbpffcicfaaVh
namespace Go.V
open Go Go.RowKit
set_option linter.unusedVariables false
set_option linter.unusedSimpArgs false

section
variable {P : Program} {w : World} {M : Nat → Nat → Prop} {G : List Gh} {H : List Ent} {n : Nat} {af : AF} {a : Act} {k : AV → List Ent → Prop}

theorem elemT_under {t e : TypeId} (h : elemT P t = some e) : P.underlying t = some (.slice e) := by
  unfold elemT at h
  split at h
  · rename_i e' he; simp at h; subst h; exact he
  · cases h
theorem run_typeInfo {t : TypeId} {i : TypeInfo} (h : P.info? t = some i) : (typeInfo t).run P w = .ok i w := by
  simp [typeInfo, h]
theorem bytesT_info {t : TypeId} {m : Nat} (h : bytesT P t = some m) : ∃ i, P.info? t = some i ∧ i.bytes = m := by
  unfold bytesT at h
  cases hi : P.info? t with
  | none => simp [hi] at h
  | some i => exact ⟨i, rfl, by simpa [hi] using h⟩

/-- Immutable cells more, in a block that is new. -/
def Madd (M : Nat → Nat → Prop) (b m : Nat) : Nat → Nat → Prop := fun c o => M c o ∨ (c = b ∧ o < m)

/-- A new row that nobody writes any more. -/
theorem push_sl (hst : St w M G H) {es : List AV} {us : List Value} {m : Nat} {t : TypeId} (hv : VRs w M G es us) (hm : ∀ u ∈ us, u.cells.size = m) (hone : ∀ u ∈ us, ∀ c ∈ u.cells.toList, c.oneCell' = true) (hl : us.length ≤ maxLen) :
    let w' := w.alloc (.cells (us.flatMap (·.cells.toList)).toArray t)
    let M' := Madd M w.heap.size (us.flatMap (·.cells.toList)).length
    Ext w M G w' M' G ∧ St w' M' G H ∧ VR w' M' G (.lit m es) (.slice (some ⟨w.heap.size, 0, none⟩) us.length us.length) := by
  intro w' M'
  have hold : ∀ b, b < w.heap.size → w'.heap[b]? = w.heap[b]? := fun b hb => Below.heap_alloc _ _ _ hb
  have hfr : ∀ b o, M' b o → M b o ∨ (w.heap.size ≤ b ∧ b < w'.heap.size ∧ ∀ v, w'.cell? ⟨b, o, none⟩ = some v → v.oneCell' = true) := fun b o h => by
    rcases h with h | ⟨rfl, h⟩
    · exact .inl h
    · refine .inr ⟨Nat.le_refl _, by show w.heap.size < (w.alloc _).heap.size; simp, fun v hv => ?_⟩
      rw [cell_of_heap (heap_alloc_new w _)] at hv
      obtain ⟨u, hu, hc⟩ := List.mem_flatMap.1 (List.mem_of_getElem? hv)
      exact hone u hu v hc
  have hsz : w.heap.size ≤ w'.heap.size := by show w.heap.size ≤ (w.alloc _).heap.size; simp
  refine ⟨Ext_same hst rfl rfl rfl hsz hold (fun _ _ h => .inl h) (fun b o h => (hfr b o h).imp id fun q => ⟨q.1, q.2.1⟩), St_same hst hsz hold (fun _ _ h => .inl h) hfr, some ⟨w.heap.size, 0, none⟩, us, ?_, ⟨Nat.le_refl _, hl, hm, .inr ⟨rfl, fun j v hj => ?_⟩⟩, rfl⟩
  · exact VRs_mono (fun i g h => ⟨g, h, rfl⟩) (fun b o h => ⟨.inl h, World.cell?_of_block (w := w) (hold b (hst.Mlt b o h))⟩) hv
  · simp only [Nat.zero_add]
    have hj' := (List.getElem?_eq_some_iff.1 hj).1
    exact ⟨by rw [cell_of_heap (heap_alloc_new w _)]; exact hj, .inr ⟨rfl, hj'⟩⟩

theorem gco_sound {P : Program} {c : Co} (hst : St w M G H) (hr : RelF w M G n af a) : ∀ (parts : List (Nat × Operand)) (j : Nat) (l : List (Opd × Co)), cRow P c parts j = some l →
    VRs w M G (gco H af l) (parts.map fun p => a.eval p.2) ∧ ∀ (i : Nat) (p : Nat × Operand), parts[i]? = some p → p.1 = j + i
  | [], j, l, h => by simp [cRow] at h; subst h; exact ⟨rfl, by simp⟩
  | (i, x) :: r, j, l, h => by
    simp only [cRow] at h
    split at h
    · rename_i hij
      split at h
      · rename_i b l' hb hl
        simp at h; subst h
        obtain ⟨h1, h2⟩ := gco_sound hst hr r (j + 1) l' hl
        refine ⟨⟨_, _, rfl, co_sound hst _ _ _ (cO_sound hb hr), h1⟩, fun q p hq => ?_⟩
        cases q with
        | zero => simp at hq; subst hq; simpa using hij
        | succ q => simp at hq; have := h2 q p hq; omega
      · cases h
    · cases h

theorem bslOK_spec {m : Nat} : ∀ {l : List AV}, bslOK m l → ∀ v ∈ l, v.cells.length = m ∧ v.flat
  | [], _, v, hv => by cases hv
  | x :: r, h, v, hv => by
    obtain ⟨h1, h2⟩ := h
    rcases List.mem_cons.1 hv with rfl | hv
    · exact h1
    · exact bslOK_spec h2 v hv

theorem VR_flat_one {v : AV} {x : Value} (h : VR w M G v x) (hf : v.flat) : ∀ c ∈ x.cells.toList, c.oneCell' = true := by
  have hc := VR_cells h (by rcases hf with q | q <;> simp [q])
  rcases hf with ⟨_, h2⟩ | h2
  · exact VRs_one hc h2
  · obtain ⟨s3, s4⟩ := VR_leaf h h2
    intro c hc; rw [s4] at hc; simp at hc; subst hc; exact s3

theorem VRs_flat_one {l : List AV} {us : List Value} (hv : VRs w M G l us) (h : ∀ v ∈ l, v.flat) : ∀ u ∈ us, ∀ c ∈ u.cells.toList, c.oneCell' = true := by
  induction l generalizing us with
  | nil => simp only [VRs] at hv; subst hv; simp
  | cons c l ih =>
    simp only [VRs] at hv
    obtain ⟨x, r, rfl, h1, h2⟩ := hv
    intro u hu
    rcases List.mem_cons.1 hu with rfl | hu
    · exact VR_flat_one h1 (h c (by simp))
    · exact ih h2 (fun v hv => h v (by simp [hv])) u hu

theorem VRs_sizes {l : List AV} {us : List Value} {m : Nat} (hv : VRs w M G l us) (h : ∀ v ∈ l, v.cells.length = m ∧ v.flat) : ∀ u ∈ us, u.cells.size = m := by
  induction l generalizing us with
  | nil => simp only [VRs] at hv; subst hv; simp
  | cons c l ih =>
    simp only [VRs] at hv
    obtain ⟨x, r, rfl, h1, h2⟩ := hv
    intro u hu
    rcases List.mem_cons.1 hu with rfl | hu
    · have := VRs_length (VR_cells h1 (by rcases (h c (by simp)).2 with q | q <;> simp [q]))
      rw [(h c (by simp)).1] at this
      simpa using this
    · exact ih h2 (fun v hv => h v (by simp [hv])) u hu

/-- Parts in order fill a row one behind the other. -/
theorem fill_row {m : Nat} : ∀ (ps : List (Nat × Value)) (j : Nat) (A R : List Value) (cells : Array Value), (∀ (i : Nat) (p : Nat × Value), ps[i]? = some p → p.1 = j + i ∧ p.2.cells.size = m) →
    cells.toList = A ++ R → A.length = j * m → R.length = ps.length * m → Instr.fill (fun i => some (i * m, m)) cells ps = some (A ++ ps.flatMap (·.2.cells.toList)).toArray
  | [], j, A, R, cells, h, hc, hA, hR => by
    have : R = [] := List.eq_nil_of_length_eq_zero (by simpa using hR)
    subst this
    simp only [Instr.fill, List.flatMap_nil, List.append_nil]
    rw [← hc.trans (by simp : A ++ [] = A)]
  | (i, v) :: ps, j, A, R, cells, h, hc, hA, hR => by
    obtain ⟨h1, h2⟩ := h 0 (i, v) (by simp)
    simp only [Nat.add_zero] at h1 h2
    subst h1
    have hcs : cells.size = i * m + R.length := by rw [← Array.length_toList, hc, List.length_append, hA]
    simp only [List.length_cons, Nat.succ_mul] at hR
    obtain ⟨c', e1, e2⟩ := fill_step (place := fun i => some (i * m, m)) (i := i) (off := i * m) (m := m) (v := v) (rest := ps) (cells := cells) rfl h2 (by rw [hcs]; omega)
    rw [e1]
    have e3 : c'.toList = (A ++ v.cells.toList) ++ R.drop m := by
      rw [e2, hc, List.take_left' hA, List.append_assoc, ← hA, ← List.drop_drop, List.drop_left]
    have := fill_row ps (i + 1) (A ++ v.cells.toList) (R.drop m) c' (fun q p hq => by have := h (q + 1) p (by simpa using hq); exact ⟨by omega, this.2⟩) e3 (by simp [hA, h2, Nat.succ_mul]) (by simp; omega)
    rw [this]
    simp [List.append_assoc]

theorem do_bsl {o : Oper} {t e : TypeId} {len m : Nat} {parts : Array (Nat × Operand)} {l : List (Opd × Co)} (ho : o.op = .buildSlice t len parts) (he : elemT P t = some e) (hm : sizeT P e = some m) (hl : cRow P (coT P e) parts.toList 0 = some l)
    (hlen : l.length = len) (hbig : len * m ≤ 16777216) (hz : len * m = 0 ∨ ((P.info? e).bind (·.zero)).isSome = true) (hm0 : 0 < m) (hst : St w M G H) (hr : RelF w M G n af a) (h : (evi af H (.v (.bsl m l))).bnd fun p => k p.1 p.2) : Do P w M G a o k := by
  refine Do.of (s := Instr.buildSlice t len (parts.map fun (i, x) => (i, a.eval x))) (by simp only [execOp, ho]) ?_
  simp only [evi] at h
  rw [bnd_map] at h
  simp only [evv, Rs.bnd] at h
  obtain ⟨hok, h⟩ := h
  obtain ⟨hv, hidx⟩ := gco_sound hst hr parts.toList 0 l hl
  have hsz := VRs_sizes hv (bslOK_spec hok)
  have hll : ∀ (ps : List (Nat × Operand)) (j : Nat) (l : List (Opd × Co)), cRow P (coT P e) ps j = some l → l.length = ps.length := by
    intro ps
    induction ps with
    | nil => intro j l h; simp [cRow] at h; subst h; rfl
    | cons p r ih =>
      intro j l h
      obtain ⟨i, x⟩ := p
      simp only [cRow] at h
      split at h
      · split at h
        · rename_i b l' hb hl'
          simp at h; subst h
          simp [ih _ _ hl']
        · cases h
      · cases h
  have hpl : parts.toList.length = len := by rw [← hll _ _ _ hl]; exact hlen
  have hmaxl : len ≤ maxLen := by unfold maxLen; have := Nat.le_mul_of_pos_right len hm0; omega
  obtain ⟨g1, g2, g3⟩ := push_sl (t := e) hst hv hsz (VRs_flat_one hv fun v hv => (bslOK_spec hok v hv).2) (by simpa [hpl] using hmaxl)
  have hpt : (parts.map fun (i, x) => (i, a.eval x)).toList = parts.toList.map fun (i, x) => (i, a.eval x) := by simp
  -- the row before it is filled
  have hfill : ∀ cells : Array Value, cells.size = len * m → Instr.fill (fun i => some (i * m, m)) cells (parts.toList.map fun (i, x) => (i, a.eval x)) = some ((parts.toList.map fun p => a.eval p.2).flatMap (·.cells.toList)).toArray := by
    intro cells hc
    have := fill_row (m := m) (parts.toList.map fun (i, x) => (i, a.eval x)) 0 [] cells.toList cells (fun i p hp => ?_) (by simp) (by simp) (by simp only [List.length_map, hpl]; simpa using hc)
    · rw [this]; simp [List.flatMap_map]
    · simp only [List.getElem?_map, Option.map_eq_some_iff] at hp
      obtain ⟨q, hq, rfl⟩ := hp
      exact ⟨hidx i q hq, hsz _ (List.mem_map.2 ⟨q, List.mem_of_getElem? hq, rfl⟩)⟩
  refine ⟨_, H, _, _, _, G, h, g1, g2, g3, ?_⟩
  have hb : ¬ (len * m > 2 ^ 24) := by simp; omega
  have hlm : (parts.toList.map fun p => a.eval p.2).length = len := by simpa using hpl
  simp only [Instr.buildSlice, Sem.run_bind, run_underlying (elemT_under he), Result.andThen_ok, run_sizeOf hm, Sem.run_ite, if_neg hb, Sem.run_pure]
  rw [hlm]
  by_cases h0 : len * m = 0
  · simp only [h0, if_true, Result.andThen_ok, hpt]
    rw [hfill _ (by simp [h0])]
    simp [newRow]
  · have hzz := hz.resolve_left h0
    obtain ⟨z, hz'⟩ := Option.isSome_iff_exists.1 hzz
    simp only [h0, if_false, run_zeroValue hz', Result.andThen_ok, hpt]
    rw [hfill _ (by simp)]
    simp [newRow]

/-- A new row of the activation's own, which may be written. -/
theorem push_mrow (hst : St w M G H) {es : List AV} {us vs : List Value} {m c : Nat} {t : TypeId} (hv : VRs w M G es us) (hm : ∀ u ∈ us, u.cells.size = m) (hc : c ≤ maxLen) (hlc : us.length ≤ c) (hvs : vs.length = c * m) (htk : vs.take (m * us.length) = us.flatMap (·.cells.toList)) :
    ∃ g : Gh, g.blk = w.heap.size ∧ g.cap = c ∧ St (w.alloc (.cells vs.toArray t)) M (G ++ [g]) (H ++ [.mrow m es]) ∧ Ext w M G (w.alloc (.cells vs.toArray t)) M (G ++ [g]) := by
  have hul := VRs_length hv
  refine ⟨{ blk := w.heap.size, cap := c, fp := fun b => b = w.heap.size }, rfl, rfl, ?_, ?_⟩
  · refine St_push hst (by simp) (fun b hb => Below.heap_alloc _ _ _ hb) (fun _ _ h => h) (fun _ _ h => .inl h) (fun b o h => by have := hst.Mlt b o h; simp; omega) (fun b hb => by subst hb; simp) ?_
    refine ⟨fun b => Iff.rfl, ⟨by rw [← hul]; exact hlc, hc, vs, t, us, heap_alloc_new _ _, hvs, ?_, hm, by rw [← hul]; exact htk⟩, fun o hm => by have := hst.Mlt _ o hm; simp at this⟩
    exact VRs_mono (core_snoc G _) (fun b o hm => ⟨hm, World.cell?_of_block (w := w) (Below.heap_alloc _ _ _ (hst.Mlt b o hm))⟩) hv
  · exact Ext_push hst rfl rfl rfl (by simp) (fun b hb => Below.heap_alloc _ _ _ hb) (fun _ _ h => h) (fun _ _ h => .inl h) (fun b hb => by subst hb; exact Nat.le_refl _)

/-- A new row of the activation's own, to which more may be appended. -/
theorem push_app (hst : St w M G H) {es : List AV} {us vs : List Value} {m c : Nat} {t : TypeId} (hv : VRs w M G es us) (hm : ∀ u ∈ us, u.cells.size = m) (hone : ∀ u ∈ us, ∀ c ∈ u.cells.toList, c.oneCell' = true) (hc : c ≤ maxLen) (hlc : us.length ≤ c) (hvs : vs.length = c * m) (htk : vs.take (m * us.length) = us.flatMap (·.cells.toList)) :
    ∃ g : Gh, g.blk = w.heap.size ∧ g.cap = c ∧ St (w.alloc (.cells vs.toArray t)) (Madd M w.heap.size (m * us.length)) (G ++ [g]) (H ++ [.app m es]) ∧ Ext w M G (w.alloc (.cells vs.toArray t)) (Madd M w.heap.size (m * us.length)) (G ++ [g]) := by
  have hul := VRs_length hv
  have hfr : ∀ b o, Madd M w.heap.size (m * us.length) b o → M b o ∨ w.heap.size ≤ b ∧ ∀ v, (w.alloc (.cells vs.toArray t)).cell? ⟨b, o, none⟩ = some v → v.oneCell' = true := fun b o h => by
    rcases h with h | ⟨rfl, h⟩
    · exact .inl h
    · refine .inr ⟨Nat.le_refl _, fun v hv => ?_⟩
      rw [cell_of_heap (heap_alloc_new w _)] at hv
      have hv' : (us.flatMap (·.cells.toList))[o]? = some v := by rw [← htk, List.getElem?_take_of_lt h]; exact hv
      obtain ⟨u, hu, hc⟩ := List.mem_flatMap.1 (List.mem_of_getElem? hv')
      exact hone u hu v hc
  refine ⟨{ blk := w.heap.size, cap := c, fp := fun b => b = w.heap.size }, rfl, rfl, ?_, ?_⟩
  · refine St_push hst (by simp) (fun b hb => Below.heap_alloc _ _ _ hb) (fun _ _ h => .inl h) hfr (fun b o h => ?_) (fun b hb => by subst hb; simp) ?_
    · rcases h with h | ⟨rfl, h⟩
      · have := hst.Mlt b o h; simp; omega
      · simp
    refine ⟨fun b => Iff.rfl, ⟨by rw [← hul]; exact hlc, hc, vs, t, us, heap_alloc_new _ _, hvs, ?_, hm, by rw [← hul]; exact htk⟩, fun o => ?_⟩
    · exact VRs_mono (core_snoc G _) (fun b o hm => ⟨.inl hm, World.cell?_of_block (w := w) (Below.heap_alloc _ _ _ (hst.Mlt b o hm))⟩) hv
    · rw [← hul]
      constructor
      · rintro (h | ⟨_, h⟩)
        · have := hst.Mlt _ o h; simp at this
        · exact h
      · exact fun h => .inr ⟨rfl, h⟩
  · exact Ext_push hst rfl rfl rfl (by simp) (fun b hb => Below.heap_alloc _ _ _ hb) (fun _ _ h => .inl h) (fun b o h => (hfr b o h).imp id (·.1)) (fun b hb => by subst hb; exact Nat.le_refl _)

theorem flat_replicate (z : Value) (l : Nat) : ((List.replicate l z).flatMap (·.cells.toList)) = (List.range (l * z.cells.size)).map fun i => z.cells[i % z.cells.size]! := by
  induction l with
  | zero => simp
  | succ l ih =>
    rw [List.replicate_succ', List.flatMap_append, ih, Nat.succ_mul, List.range_add, List.map_append]
    congr 1
    apply List.ext_getElem?
    intro i
    simp only [List.flatMap_cons, List.flatMap_nil, List.append_nil, List.map_map, List.getElem?_map]
    by_cases hi : i < z.cells.size
    · simp [hi, Nat.mod_eq_of_lt hi]
    · simp [hi]

theorem VRs_replicate {z : AV} {x : Value} (h : VR w M G z x) (l : Nat) : VRs w M G (List.replicate l z) (List.replicate l x) := by
  induction l with
  | zero => rfl
  | succ l ih => exact ⟨x, _, rfl, h, ih⟩

theorem wrap_id {z : Int} (h0 : 0 ≤ z) (h1 : z ≤ maxLen) : IntKind.i64.wrap z = z := by
  unfold maxLen at h1
  simp [IntKind.wrap, IntKind.signed, IntKind.bits]
  omega

theorem do_mks {o : Oper} {t e : TypeId} {len cap : Operand} {l c : Opd} {m bytes : Nat} {z : AV} (ho : o.op = .makeSlice t len cap) (he : elemT P t = some e) (hm : sizeT P e = some m) (hby : bytesT P e = some bytes) (hz : zeroT P e = some z)
    (hzl : z.cells.length = m) (hza : z.cells.all AV.leaf = true) (hm0 : 0 < m) (hl : cO len = some l) (hc : cO cap = some c) (hst : St w M G H) (hr : RelF w M G n af a) (h : (evi af H (.mks m z bytes l c)).bnd fun p => k p.1 p.2) : Do P w M G a o k := by
  refine Do.of (s := Instr.makeSlice t (a.eval len) (a.eval cap)) (by simp only [execOp, ho]) ?_
  have hvl := cO_sound hl hr
  have hvc := cO_sound hc hr
  simp only [evi] at h
  cases hq : gt af l <;> cases hq' : gt af c <;> simp only [hq, hq', mksv, Rs.bnd] at h
  rw [hq] at hvl; rw [hq'] at hvc
  rename_i k1 z1 k2 z2
  obtain ⟨⟨h0, rfl, hb, hmx⟩, h⟩ := h
  obtain ⟨i, hi, hib⟩ := bytesT_info hby
  obtain ⟨zv, hz1, hz2, hzf⟩ := zeroT_sound (w := w) (M := M) (G := G) hz
  have hzc := VR_cells hz2 (by rcases hzf with q | q <;> simp [q])
  have hzs : zv.cells.size = m := by have := VRs_length hzc; simpa [hzl] using this
  have hrep := VRs_replicate hz2 z1.toNat
  have hfl := flat_replicate zv z1.toNat
  rw [hzs] at hfl
  have hmaxn : z1.toNat ≤ maxLen := by omega
  obtain ⟨g, hg1, hg2, hg3, hg4⟩ := push_mrow (m := m) (t := e) (vs := (List.range (z1.toNat * m)).map fun i => zv.cells[i % m]!) (c := z1.toNat) hst hrep (fun u hu => by rw [(List.mem_replicate.1 hu).2]; exact hzs) hmaxn (by simp) (by simp)
    (by rw [hfl, List.length_replicate]; apply List.take_of_length_le; simp; rw [Nat.mul_comm]; exact Nat.le_refl _)
  refine ⟨_, _, .slice (some ⟨w.heap.size, 0, none⟩) z1.toNat z1.toNat, _, _, _, h, hg4, hg3, ⟨g, ?_, by rw [hg1, hg2]⟩, ?_⟩
  · rw [← hst.len, getElem?_snoc]; simp
  · have hw := wrap_id h0 hmx
    have hb' : ¬ ((bytes : Int) * z1 > 2 ^ 48) := by
      have : (2 : Int) ^ 48 = 281474976710656 := by decide
      rw [this]; omega
    have hcond : ¬ ((z1 < 0 ∨ (bytes : Int) * z1 > 2 ^ 48) ∨ z1 < 0 ∨ z1 > z1) := by omega
    simp only [Instr.makeSlice, Sem.run_bind, run_underlying (elemT_under he), Result.andThen_ok, hvl.1, hvc.1, asInt, asIntOf, Sem.run_pure, run_typeInfo hi, hib, hw]
    have c1 : ((decide (z1 < 0) || decide ((bytes : Int) * z1 > 2 ^ 48) || decide (z1 < 0) || decide (z1 > z1)) = true) = False := by
      simp only [Bool.or_eq_true, decide_eq_true_eq, eq_iff_iff, iff_false]; omega
    simp only [c1, if_false, run_askRoom, Result.andThen_ok, run_sizeOf hm, Sem.run_bind, Sem.run_ite]
    by_cases hz0 : z1.toNat * m = 0
    · have hr0 : Array.range 0 = #[] := rfl
      simp [hz0, newRow, hr0]
    · simp [hz0, hz1, newRow, hzs]
      congr 2
      apply Array.ext'
      simp [Array.toList_range]
end
end Go.V
