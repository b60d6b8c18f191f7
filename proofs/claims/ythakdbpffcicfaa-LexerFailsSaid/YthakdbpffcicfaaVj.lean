
/-
  The value logic, part j: append.
-/
import Derived.Test.YthakdbpffcicfaaVi
namespace Go.V
open Go Go.RowKit
set_option linter.unusedVariables false
set_option linter.unusedSimpArgs false

section
variable {P : Program} {w : World} {M : Nat → Nat → Prop} {G : List Gh} {H : List Ent} {n : Nat} {af : AF} {a : Act} {k : AV → List Ent → Prop}

/-- The source of an append: its values; its cells are read. -/
def Src (P : Program) (w : World) (M : Nat → Nat → Prop) (G : List Gh) (m : Nat) (ys : List AV) (y : Value) : Prop :=
  ∃ us, VRs w M G ys us ∧ (∀ u ∈ us, u.cells.size = m) ∧ (∀ u ∈ us, ∀ c ∈ u.cells.toList, c.oneCell' = true) ∧ (Builtin.lenOf y).run P w = .ok us.length w ∧
    ∀ w' : World, (∀ b o, M b o → w'.cell? ⟨b, o, none⟩ = w.cell? ⟨b, o, none⟩) → (Builtin.firstCells m us.length y).run P w' = .ok (us.flatMap (·.cells.toList)).toArray w'

theorem firstCells_sl {m cap : Nat} {us : List Value} {ad : Option Addr} (h : SlOK w M m us ad cap) (w' : World) (hw : ∀ b o, M b o → w'.cell? ⟨b, o, none⟩ = w.cell? ⟨b, o, none⟩) :
    (Builtin.firstCells m us.length (.slice ad us.length cap)).run P w' = .ok (us.flatMap (·.cells.toList)).toArray w' := by
  obtain ⟨h1, h2, h3, h4⟩ := h
  cases ad with
  | none =>
    have h4 : cap = 0 := h4
    have : us = [] := List.eq_nil_of_length_eq_zero (by omega)
    subst this
    simp [Builtin.firstCells]
  | some d =>
    rcases h4 with h4 | ⟨h5, h6⟩
    · subst h4; simp [Builtin.firstCells, loadCells, loadCellsFrom]
    have hd : d = ⟨d.block, d.off + 0, none⟩ := by cases d; simp at h5; subst h5; rfl
    have hl := flat_length h3
    simp only [Builtin.firstCells]
    rw [hd, run_cells (vs := us.flatMap (·.cells.toList)) (fun j v hj => by obtain ⟨q1, q2⟩ := h6 j v hj; rw [hw _ _ q2]; exact q1) 0 (us.length * m) (by omega)]
    rw [List.drop_zero, List.take_of_length_le (by omega)]

theorem SlOK_one (hst : St w M G H) {m cap : Nat} {us : List Value} {ad : Option Addr} (h : SlOK w M m us ad cap) : ∀ u ∈ us, ∀ c ∈ u.cells.toList, c.oneCell' = true := by
  obtain ⟨h1, h2, h3, h4⟩ := h
  intro u hu c hc
  cases ad with
  | none =>
    have h4 : cap = 0 := h4
    have : us = [] := List.eq_nil_of_length_eq_zero (by omega)
    subst this; cases hu
  | some d =>
    obtain ⟨j, hj⟩ := List.mem_iff_getElem?.1 (List.mem_flatMap.2 ⟨u, hu, hc⟩ : c ∈ us.flatMap (·.cells.toList))
    obtain ⟨q1, q2⟩ := (h4.resolve_left (fun e => by subst e; cases hu)).2 j c hj
    exact hst.one _ _ _ q2 q1

theorem appArg_sound {m : Nat} {v : AV} {y : Value} {kk : List AV → Prop} (hst : St w M G H) (hv : VR w M G v y) (h : (appArg m H v).bnd kk) : ∃ ys, kk ys ∧ Src P w M G m ys y := by
  cases v <;> simp only [appArg, Rs.bnd] at h
  case nils =>
    simp only [VR] at hv; subst hv
    exact ⟨_, h, [], rfl, by simp, by simp, by simp [Builtin.lenOf], fun w' _ => by simp [Builtin.firstCells]⟩
  case sl m' es =>
    obtain ⟨rfl, h⟩ := h
    obtain ⟨ad, cap, us, h1, h2, rfl⟩ := hv
    exact ⟨_, h, us, h1, h2.2.2.1, SlOK_one hst h2, by simp [Builtin.lenOf], fun w' hw => firstCells_sl h2 w' hw⟩
  case lit m' es =>
    obtain ⟨rfl, h⟩ := h
    obtain ⟨ad, us, h1, h2, rfl⟩ := hv
    exact ⟨_, h, us, h1, h2.2.2.1, SlOK_one hst h2, by simp [Builtin.lenOf], fun w' hw => firstCells_sl h2 w' hw⟩
  case row i len =>
    cases he : ent H i <;> simp only [he, Rs.bnd] at h
    rename_i m' es
    obtain ⟨⟨rfl, hlen⟩, h⟩ := h
    obtain ⟨g, hg, rfl⟩ := hv
    obtain ⟨_, hrow, hM⟩ := hst.ok i g _ hg (ent_get he (by simp))
    obtain ⟨us, h1, h2, h3⟩ := row_SlOK hrow hM hlen
    subst h3
    exact ⟨_, h, us, h1, h2.2.2.1, SlOK_one hst h2, by simp [Builtin.lenOf], fun w' hw => firstCells_sl h2 w' hw⟩

theorem nextcap_le {need cap : Nat} (h : cap < need) : Builtin.nextslicecap need cap ≤ need + need + 768 := by
  have hg : ∀ r c, c ≤ need + need + 768 → Builtin.growBy need r c ≤ need + need + 768 := by
    intro r
    induction r with
    | zero => intro c hc; exact hc
    | succ r ih =>
      intro c hc
      simp only [Builtin.growBy]
      split
      · exact hc
      · exact ih _ (by omega)
  unfold Builtin.nextslicecap
  split
  · omega
  · split
    · omega
    · exact hg 4 cap (by omega)

theorem zeroCells_length (z : Array Value) (q : Nat) : (Builtin.zeroCells z q).size = q * z.size := by simp [Builtin.zeroCells]

/-- The append grows: a new row. -/
theorem run_append_grow {t e : TypeId} {ty : TypeId} {m bytes cap : Nat} {us vs : List Value} {ad : Option Addr} {y : Value} {t' : TypeId} {ys : List AV} {z : AV} (he : elemT P t = some e) (he' : elemT P t' = some e) (hm : sizeT P e = some m) (hby : bytesT P e = some bytes) (hz : zeroT P e = some z)
    (hzl : z.cells.length = m) (hsl : SlOK w M m us ad cap) (hvs : (Builtin.lenOf y).run P w = .ok vs.length w) (hc : ∀ w' : World, (∀ b o, M b o → w'.cell? ⟨b, o, none⟩ = w.cell? ⟨b, o, none⟩) → (Builtin.firstCells m vs.length y).run P w' = .ok (vs.flatMap (·.cells.toList)).toArray w')
    (hgrow : cap < us.length + vs.length) (hb : ((us.length + vs.length) + (us.length + vs.length) + 768) * bytes ≤ 281474976710656) (hbb : (us.length + vs.length) ≤ maxLen) :
    ∃ c rest, us.length + vs.length ≤ c ∧ c ≤ maxLen ∧ rest.length = (c - (us.length + vs.length)) * m ∧
      (Builtin.append_ #[t, t'] ty #[.slice ad us.length cap, y]).run P w = .ok (.slice (some ⟨w.heap.size, 0, none⟩) (us.length + vs.length) c)
        (w.drew.alloc (.cells (us.flatMap (·.cells.toList) ++ vs.flatMap (·.cells.toList) ++ rest).toArray e)) := by
  obtain ⟨i, hi, hib⟩ := bytesT_info hby
  obtain ⟨zv, hz1, hz2, hzf⟩ := zeroT_sound (w := w.drew) (M := M) (G := []) hz
  have hzs : zv.cells.size = m := by
    have hzc := VR_cells hz2 (by rcases hzf with q | q <;> simp [q])
    have := VRs_length hzc
    simpa [hzl] using this
  let q := Question.appendCap (us.length + vs.length) cap e
  let c := q.cut (w.tape w.drawn q)
  have hcut : c = (us.length + vs.length) + (w.tape w.drawn q) % (2 ^ 63 - (us.length + vs.length)) := rfl
  have hml : us.length + vs.length < 2 ^ 63 := by unfold maxLen at hbb; omega
  have hmod := Nat.mod_lt (w.tape w.drawn q) (show 0 < 2 ^ 63 - (us.length + vs.length) by omega)
  refine ⟨c, (Builtin.zeroCells zv.cells (c - (us.length + vs.length))).toList, by omega, by unfold maxLen; omega, by simp [zeroCells_length, hzs], ?_⟩
  have h1 : ¬ (us.length + vs.length ≤ cap) := by omega
  have h2 : ¬ (Builtin.nextslicecap (us.length + vs.length) cap * bytes > 2 ^ 48) := by
    have := Nat.mul_le_mul_right bytes (nextcap_le hgrow)
    have e48 : (2 : Nat) ^ 48 = 281474976710656 := by decide
    omega
  have h3 : ¬ (((us.length + vs.length : Nat) : Int) > IntKind.i64.max ∧ (False ∨ bytes = 0)) := by
    intro hh
    have := hh.1
    simp [IntKind.max, IntKind.signed, IntKind.bits] at this
    omega
  have hcells : ∀ b o, M b o → w.drew.cell? ⟨b, o, none⟩ = w.cell? ⟨b, o, none⟩ := fun _ _ _ => rfl
  have hfc := firstCells_sl (P := P) hsl w.drew hcells
  have hfy := hc w.drew hcells
  have hzt : (match (TypeDesc.slice e) with | .int _ => true | _ => false) = false := rfl
  unfold Builtin.append_
  simp only [List.getElem?_toArray, List.getElem?_cons_zero, List.getElem?_cons_succ, Sem.run_bind, run_underlying (elemT_under he), run_underlying (elemT_under he'), Result.andThen_ok, run_sizeOf hm, Sem.run_pure, Bool.false_eq_true, if_false, hvs, Sem.run_ite, if_neg h1,
    run_typeInfo hi, hib, if_neg h2, Bool.not_false, if_true]
  rw [if_neg h3]
  have hch : (choose q).run P w = .ok c w.drew := rfl
  simp only [show Question.appendCap (us.length + vs.length) cap e = q from rfl, hch, Result.andThen_ok, run_askRoom, hfc, hfy, hz1, newRow, Sem.run_bind, run_newObj, Sem.run_pure, World.alloc_eq, World.size_drew]
  congr 3
  apply Array.ext'
  simp

theorem app_builtin {o : Oper} {c : Call} {x y : Operand} {t t' : TypeId} (ho : o.op = .call c) (hc : c.callee = .builtin .append) (hx : c.args.toList = [x, y]) (ht : c.argTypes.toList = [t, t']) :
    execOp a.eval o = (do pure (.value (← Builtin.append_ #[t, t'] o.type #[a.eval x, a.eval y]))) := by
  have hargs : c.args = #[x, y] := by rw [← hx]
  have htys : c.argTypes = #[t, t'] := by rw [← ht]
  exact run_builtin ho hc (fun cs => by simp [builtin, hargs, htys])

/-- A new row that has come of an append. -/
theorem grow_row {t e t' ty : TypeId} {m bytes cap : Nat} {us vs : List Value} {ad : Option Addr} {y : Value} {es ys : List AV} {z : AV} (hst : St w M G H) (he : elemT P t = some e) (he' : elemT P t' = some e) (hm : sizeT P e = some m) (hby : bytesT P e = some bytes) (hz : zeroT P e = some z)
    (hzl : z.cells.length = m) (hm0 : 0 < m) (hes : VRs w M G es us) (hsl : SlOK w M m us ad cap) (hys : VRs w M G ys vs) (hysm : ∀ u ∈ vs, u.cells.size = m) (hyso : ∀ u ∈ vs, ∀ c ∈ u.cells.toList, c.oneCell' = true) (hvs : (Builtin.lenOf y).run P w = .ok vs.length w)
    (hc : ∀ w' : World, (∀ b o, M b o → w'.cell? ⟨b, o, none⟩ = w.cell? ⟨b, o, none⟩) → (Builtin.firstCells m vs.length y).run P w' = .ok (vs.flatMap (·.cells.toList)).toArray w')
    (hgrow : cap < us.length + vs.length) (hb : ((us.length + vs.length) + (us.length + vs.length) + 768) * bytes ≤ 281474976710656) (hbb : (us.length + vs.length) ≤ maxLen) :
    ∃ x w' M' G', Ext w M G w' M' G' ∧ St w' M' G' (H ++ [.app m (es ++ ys)]) ∧ VR w' M' G' (.row H.length (us.length + vs.length)) x ∧ (Builtin.append_ #[t, t'] ty #[.slice ad us.length cap, y]).run P w = .ok x w' := by
  obtain ⟨c, rest, h1, h2, h3, h4⟩ := run_append_grow (ty := ty) (ys := ys) he he' hm hby hz hzl hsl hvs hc hgrow hb hbb
  have hst1 : St w.drew M G H := hst.drew
  have hv : VRs w.drew M G (es ++ ys) (us ++ vs) := VRs_append (VRs.ext hes (Ext.drew hst)) (VRs.ext hys (Ext.drew hst))
  have hmm : ∀ u ∈ us ++ vs, u.cells.size = m := fun u hu => by
    rcases List.mem_append.1 hu with hu | hu
    · exact hsl.2.2.1 u hu
    · exact hysm u hu
  have hone : ∀ u ∈ us ++ vs, ∀ c ∈ u.cells.toList, c.oneCell' = true := fun u hu => by
    rcases List.mem_append.1 hu with hu | hu
    · exact SlOK_one hst hsl u hu
    · exact hyso u hu
  have hfl := flat_length hmm
  rw [List.flatMap_append] at hfl
  have hlen : (us ++ vs).length = us.length + vs.length := by simp
  have hcm : (us.length + vs.length) * m ≤ c * m := Nat.mul_le_mul_right m h1
  obtain ⟨g, g1, g2, g3, g4⟩ := push_app (t := e) (m := m) (c := c) (vs := us.flatMap (·.cells.toList) ++ vs.flatMap (·.cells.toList) ++ rest) hst1 hv hmm hone h2 (by rw [hlen]; exact h1)
    (by rw [List.length_append, hfl, h3, hlen, Nat.sub_mul]; omega)
    (by rw [List.flatMap_append, Nat.mul_comm, ← hfl, List.take_left])
  refine ⟨_, _, _, _, (Ext.drew hst).trans g4, g3, ⟨g, ?_, rfl⟩, ?_⟩
  · rw [← hst.len, getElem?_snoc]; simp
  · rw [h4, g1, g2]; rfl

theorem getElem?_set_snoc {i : Nat} {g g' g₁ g₂ : Gh} (hg : G[i]? = some g) {j : Nat} (hj : (G.set i g' ++ [g₁])[j]? = some g₂) : (j = G.length ∧ g₂ = g₁) ∨ (j = i ∧ g₂ = g') ∨ (j ≠ i ∧ j < G.length ∧ G[j]? = some g₂) := by
  have hi := (List.getElem?_eq_some_iff.1 hg).1
  rw [getElem?_snoc, List.length_set] at hj
  by_cases h1 : j < G.length
  · rw [if_pos h1] at hj
    by_cases h2 : i = j
    · subst h2; simp [hi] at hj; exact .inr (.inl ⟨rfl, hj.symm⟩)
    · rw [List.getElem?_set_ne h2] at hj; exact .inr (.inr ⟨Ne.symm h2, h1, hj⟩)
  · rw [if_neg h1] at hj
    by_cases h2 : j = G.length
    · rw [if_pos h2] at hj; simp at hj; exact .inl ⟨h2, hj.symm⟩
    · rw [if_neg h2] at hj; cases hj

/-- An append within the capacity. -/
theorem inplace_row {i m : Nat} {g : Gh} {es ys : List AV} {us vs : List Value} (hst : St w M G H) (hg : G[i]? = some g) (hH : H[i]? = some (.app m es)) (hys : VRs w M G ys vs) (hysm : ∀ u ∈ vs, u.cells.size = m)
    (hyso : ∀ u ∈ vs, ∀ c ∈ u.cells.toList, c.oneCell' = true) (hroom : es.length + vs.length ≤ g.cap) :
    ∃ w' M' G', Ext w M G w' M' G' ∧ St w' M' G' (H.set i .dead ++ [.app m (es ++ ys)]) ∧ VR w' M' G' (.row H.length (es.length + vs.length)) (.slice (some ⟨g.blk, 0, none⟩) (es.length + vs.length) g.cap) ∧
      (storeCells ⟨g.blk, es.length * m, none⟩ (vs.flatMap (·.cells.toList)) 0).run P w = .ok () w' := by
  obtain ⟨hfp, ⟨r1, r2, cells, tt, us, r3, r4, r5, r6, r7⟩, hM⟩ := hst.ok i g _ hg hH
  have hul := VRs_length r5
  have hyl := VRs_length hys
  have hi := (List.getElem?_eq_some_iff.1 hg).1
  have hflv := flat_length hysm
  have hflu := flat_length r6
  have hmul : m * es.length = es.length * m := Nat.mul_comm _ _
  have hcap : (es.length + vs.length) * m ≤ g.cap * m := Nat.mul_le_mul_right m hroom
  have hadd : (es.length + vs.length) * m = es.length * m + vs.length * m := Nat.add_mul _ _ _
  have hmul2 : m * (es.length + vs.length) = es.length * m + vs.length * m := by rw [Nat.mul_comm]; exact hadd
  obtain ⟨w', e1, e2, e3, e4, e5, e6, e7⟩ := run_storeCells (P := P) (b := g.blk) (o := es.length * m) (t := tt) (vs.flatMap (·.cells.toList)) 0 w cells r3 (by omega)
    (fun u hu => by obtain ⟨v, hv, hc⟩ := List.mem_flatMap.1 hu; exact hyso v hv u hc)
  simp only [Nat.add_zero] at e2
  rw [hflv, ← hmul, r7] at e2
  let g' : Gh := { g with fp := fun _ => False }
  let M' : Nat → Nat → Prop := fun b o => M b o ∨ (b = g.blk ∧ o < m * (es.length + vs.length))
  have hown : g.fp g.blk := (hfp _).2 rfl
  have hcell : ∀ o, o < m * (es.length + vs.length) → w'.cell? ⟨g.blk, o, none⟩ = (us.flatMap (·.cells.toList) ++ vs.flatMap (·.cells.toList))[o]? := fun o ho => by
    rw [cell_of_heap e2, ← List.append_assoc, List.getElem?_append_left (by rw [List.length_append, hflu, hflv, hul]; omega)]
  have hLe : Le w M w' M' := fun b o hm => by
    refine ⟨.inl hm, ?_⟩
    by_cases hb : b = g.blk
    · subst hb
      have ho := (hM o).1 hm
      rw [hcell o (by omega), List.getElem?_append_left (by rw [hflu, hul]; omega), cell_of_heap r3, ← r7, List.getElem?_take_of_lt ho]
    · exact World.cell?_of_block (w := w) (e7 b hb)
  have hcc : ∀ (j : Nat) (g₀ : Gh), G[j]? = some g₀ → ∃ g₁ : Gh, (G.set i g' ++ [g])[j]? = some g₁ ∧ g₁.core = g₀.core := fun j g₀ hj => by
    have hjl := (List.getElem?_eq_some_iff.1 hj).1
    rw [getElem?_snoc, List.length_set, if_pos hjl]
    by_cases hji : i = j
    · subst hji
      rw [hg] at hj; cases hj
      exact ⟨g', by simp [hi], rfl⟩
    · exact ⟨g₀, by rw [List.getElem?_set_ne hji]; exact hj, rfl⟩
  have hone : ∀ c ∈ us.flatMap (·.cells.toList) ++ vs.flatMap (·.cells.toList), c.oneCell' = true := fun c hc => by
    rcases List.mem_append.1 hc with hc | hc
    · obtain ⟨j, hj⟩ := List.mem_iff_getElem?.1 hc
      have hjl := (List.getElem?_eq_some_iff.1 hj).1
      rw [hflu, hul] at hjl
      refine hst.one g.blk j c ((hM j).2 (by omega)) ?_
      rw [cell_of_heap r3, ← hj, ← r7, List.getElem?_take_of_lt (by omega)]
    · obtain ⟨v, hv, hc⟩ := List.mem_flatMap.1 hc
      exact hyso v hv c hc
  have hst' : St w' M' (G.set i g' ++ [g]) (H.set i .dead ++ [.app m (es ++ ys)]) := by
    refine St_of hst (by simp [hst.len]) (fun j g₁ e₁ hg₁ he₁ => ?_) hcc (fun j k g₁ g₂ b h1 h2 h3 h4 => ?_) (fun j g₁ b h1 h2 => ?_) (fun b o hm => ?_) (fun b o v hm hv => ?_)
    · have hHl : H.length = G.length := hst.len.symm
      rcases getElem?_set_snoc hg hg₁ with ⟨hj, rfl⟩ | ⟨rfl, rfl⟩ | ⟨hji, hjl, hgj⟩
      · rw [getElem?_snoc, List.length_set, if_neg (by omega), if_pos (by omega)] at he₁
        simp only [Option.some.injEq] at he₁
        subst he₁
        refine .inr ⟨hfp, ⟨by simp; omega, r2, _, tt, us ++ vs, e2, ?_, VRs_append (VRs_mono hcc hLe r5) (VRs_mono hcc hLe hys), fun u hu => ?_, ?_⟩, fun o => ?_⟩
        · simp only [List.length_append, hflu, hflv, List.length_drop, r4, hul]; omega
        · rcases List.mem_append.1 hu with hu | hu
          · exact r6 u hu
          · exact hysm u hu
        · rw [List.length_append, ← hyl, List.flatMap_append, ← List.append_assoc, List.take_left' (by rw [List.length_append, hflu, hflv, hul]; omega)]
        · rw [List.length_append, ← hyl]
          constructor
          · rintro (h | ⟨_, h⟩)
            · have := (hM o).1 h; omega
            · exact h
          · exact fun h => .inr ⟨rfl, h⟩
      · rw [getElem?_snoc, List.length_set, if_pos (by omega), List.getElem?_set_self (by omega)] at he₁
        simp only [Option.some.injEq] at he₁
        subst he₁
        exact .inr (fun b hb => hb)
      · rw [getElem?_snoc, List.length_set, if_pos (by omega), List.getElem?_set_ne (Ne.symm hji)] at he₁
        have hnot : ∀ b, g₁.fp b → b ≠ g.blk := fun b hb hc => hji (hst.dj j i g₁ g b hgj hg hb (hc ▸ hown))
        refine .inl ⟨hgj, he₁, fun b hb => e7 b (hnot b hb), hLe, fun b o hb hm => ?_, by omega⟩
        rcases hm with hm | ⟨rfl, _⟩
        · exact hm
        · exact absurd rfl (hnot _ hb)
    · have q1 : ∀ (j : Nat) (g₁ : Gh) (b : Nat), (G.set i g' ++ [g])[j]? = some g₁ → g₁.fp b → (j = G.length ∧ g.fp b) ∨ (j ≠ i ∧ j < G.length ∧ G[j]? = some g₁) := fun j g₁ b hj hb => by
        rcases getElem?_set_snoc hg hj with ⟨hjj, rfl⟩ | ⟨rfl, rfl⟩ | ⟨hji, hjl, hgj⟩
        · exact .inl ⟨hjj, hb⟩
        · exact hb.elim
        · exact .inr ⟨hji, hjl, hgj⟩
      rcases q1 j g₁ b h1 h3 with ⟨p1, p2⟩ | ⟨p1, p2, p3⟩ <;> rcases q1 k g₂ b h2 h4 with ⟨s1, s2⟩ | ⟨s1, s2, s3⟩
      · omega
      · exact absurd (hst.dj _ _ _ _ b s3 hg h4 p2) s1
      · exact absurd (hst.dj _ _ _ _ b p3 hg h3 s2) p1
      · exact hst.dj _ _ _ _ b p3 s3 h3 h4
    · rcases getElem?_set_snoc hg h1 with ⟨hj, rfl⟩ | ⟨rfl, rfl⟩ | ⟨hji, hjl, hgj⟩
      · have := hst.lt _ _ b hg h2; omega
      · exact h2.elim
      · have := hst.lt _ _ b hgj h2; omega
    · rcases hm with hm | ⟨rfl, _⟩
      · have := hst.Mlt b o hm; omega
      · have := hst.lt _ _ _ hg hown; omega
    · by_cases hb : b = g.blk
      · have ho : o < m * (es.length + vs.length) := by
          rcases hm with hm | ⟨_, h⟩
          · subst hb; have := (hM o).1 hm; omega
          · exact h
        subst hb
        rw [hcell o ho] at hv
        exact hone v (List.mem_of_getElem? hv)
      · rcases hm with hm | ⟨h, _⟩
        · exact hst.one b o v hm ((hLe b o hm).2 ▸ hv)
        · exact absurd h hb
  refine ⟨w', M', _, ⟨e3, e4, e5, by omega, hcc, hLe, fun b hb ho => e7 b (fun hc => ho ⟨i, g, hg, hc ▸ hown⟩), fun b ⟨j, g₁, hj, hb⟩ => ?_, fun b o hm => ?_⟩, hst', ⟨g, ?_, rfl⟩, e1⟩
  · rcases getElem?_set_snoc hg hj with ⟨hj, rfl⟩ | ⟨rfl, rfl⟩ | ⟨hji, hjl, hgj⟩
    · exact .inl ⟨i, _, hg, hb⟩
    · exact hb.elim
    · exact .inl ⟨j, _, hgj, hb⟩
  · rcases hm with hm | ⟨rfl, _⟩
    · exact .inl hm
    · exact .inr (.inl ⟨i, g, hg, hown⟩)
  · rw [getElem?_snoc, List.length_set, hst.len, if_neg (by omega), if_pos rfl]

theorem le_maxLen_of {a b : Nat} (hb : 0 < b) (h : (a + a + 768) * b ≤ 281474976710656) : a ≤ maxLen := by
  have := Nat.le_mul_of_pos_right (a + a + 768) hb
  unfold maxLen; omega

theorem do_app {o : Oper} {c : Call} {x y : Operand} {x' y' : Opd} {t t' e : TypeId} {m bytes : Nat} {z : AV} {cc : Co} (ho : o.op = .call c) (hc : c.callee = .builtin .append) (hx : c.args.toList = [x, y]) (ht : c.argTypes.toList = [t, t'])
    (he : elemT P t = some e) (he' : elemT P t' = some e) (hm : sizeT P e = some m) (hby : bytesT P e = some bytes) (hz : zeroT P e = some z) (hzl : z.cells.length = m) (hm0 : 0 < m) (hb0 : 0 < bytes) (hx' : cO x = some x') (hy' : cO y = some y')
    (hst : St w M G H) (hr : RelF w M G n af a) (h : (evi af H (.app m z bytes cc x' y')).bnd fun p => k p.1 p.2) : Do P w M G a o k := by
  refine Do.of (app_builtin ho hc hx ht) ?_
  have hvx := cO_sound hx' hr
  have hvy := cO_sound hy' hr
  simp only [evi] at h
  generalize gt af x' = p at *
  generalize gt af y' = q at *
  generalize a.eval x = u at *
  generalize a.eval y = v at *
  have hsplit : ∃ ys, Src P w M G m ys v ∧ (appTo m bytes H ys p).bnd fun p => k p.1 p.2 := by
    unfold appv at h
    split at h
    · rename_i ys hq
      obtain ⟨ys', h1, h2⟩ := appArg_sound (P := P) (kk := fun l => l = ys) hst hvy (by rw [hq]; rfl)
      subst h1
      exact ⟨_, h2, h⟩
    · rename_i pp ys hq
      simp only [Rs.bnd] at h
      obtain ⟨ys', h1, h2⟩ := appArg_sound (P := P) (kk := fun l => l = ys) hst hvy (by rw [hq]; exact ⟨h.1, rfl⟩)
      subst h1
      exact ⟨_, h2, h.2⟩
    · simp only [Rs.bnd] at h
  clear h
  obtain ⟨ys, ⟨vs, hys, hysm, hyso, hlen, hfc⟩, h⟩ := hsplit
  have hyl := VRs_length hys
  cases p <;> try (simp only [appTo, Rs.bnd] at h)
  case nils =>
    simp only [VR] at hvx; subst hvx
    by_cases h0 : ys.length = 0
    · rw [if_pos h0] at h
      simp only [Rs.bnd] at h
      have hv0 : vs.length = 0 := by omega
      refine ⟨_, _, .slice none 0 0, w, M, G, h, Ext.refl _ _ _, hst, rfl, ?_⟩
      rw [hv0] at hlen
      have hf := hfc w (fun _ _ _ => rfl)
      rw [hv0] at hf
      unfold Builtin.append_
      simp [run_underlying (elemT_under he), run_underlying (elemT_under he'), run_sizeOf hm, hlen, hf]
    · rw [if_neg h0] at h
      simp only [Rs.bnd] at h
      obtain ⟨hb, h⟩ := h
      have hsl : SlOK w M m [] none 0 := ⟨Nat.le_refl _, by simp [maxLen], by simp, rfl⟩
      obtain ⟨xx, w', M', G', f1, f2, f3, f4⟩ := grow_row (ty := o.type) (es := []) (us := []) hst he he' hm hby hz hzl hm0 rfl hsl hys hysm hyso hlen hfc (by simp; omega) (by simpa [hyl, capOK] using hb) (by simp; exact le_maxLen_of hb0 (by rw [hyl]; exact hb))
      exact ⟨_, _, xx, w', M', G', h, f1, by simpa using f2, by simpa [hyl] using f3, f4⟩
  case lit m' es =>
    obtain ⟨ad, us, h1, h2, rfl⟩ := hvx
    have hul := VRs_length h1
    by_cases h0 : ys.length = 0
    · rw [if_pos h0] at h
      simp only [Rs.bnd] at h
      obtain ⟨rfl, h⟩ := h
      have hv0 : vs.length = 0 := by omega
      have hvn : vs = [] := List.eq_nil_of_length_eq_zero hv0
      subst hvn
      refine ⟨_, _, .slice ad us.length us.length, w, M, G, h, Ext.refl _ _ _, hst, ⟨ad, us, h1, h2, rfl⟩, ?_⟩
      have hf := hfc w (fun _ _ _ => rfl)
      simp only [List.length_nil] at hlen hf
      unfold Builtin.append_
      cases ad with
      | none => simp [run_underlying (elemT_under he), run_underlying (elemT_under he'), run_sizeOf hm, hlen, hf]
      | some d => simp [run_underlying (elemT_under he), run_underlying (elemT_under he'), run_sizeOf hm, hlen, hf, storeCells]
    · rw [if_neg h0] at h
      simp only [Rs.bnd] at h
      obtain ⟨⟨rfl, hb⟩, h⟩ := h
      obtain ⟨xx, w', M', G', f1, f2, f3, f4⟩ := grow_row (ty := o.type) hst he he' hm hby hz hzl hm0 h1 h2 hys hysm hyso hlen hfc (by omega) (by rw [hul, hyl]; exact hb) (by rw [hul, hyl]; exact le_maxLen_of hb0 hb)
      exact ⟨_, _, xx, w', M', G', h, f1, f2, by rw [hul, hyl] at f3; exact f3, f4⟩
  case row i len =>
    cases hen : ent H i <;> simp only [hen, Rs.bnd] at h
    rename_i m' es
    obtain ⟨⟨rfl, hel, hb⟩, h⟩ := h
    obtain ⟨g, hg, rfl⟩ := hvx
    have hH := ent_get hen (by simp)
    obtain ⟨hfp, hrow, hM⟩ := hst.ok i g _ hg hH
    obtain ⟨us, h1, h2, h3⟩ := row_SlOK hrow hM hel
    have hbb : us.length + vs.length ≤ maxLen := by rw [h3, hyl]; exact le_maxLen_of hb0 hb
    -- the entry is given up
    let g' : Gh := { g with fp := fun _ => False }
    have hst0 : St w M (G.set i g') (H.set i .dead) := St_set hst hg rfl (fun _ h => h.elim) (Nat.le_refl _) (fun _ _ _ => rfl) (Le.refl w M) (fun _ _ h => .inl h) (fun b hb => hb)
    have hext0 : Ext w M G w M (G.set i g') := Ext_set hst hg rfl (fun _ h => h.elim) rfl rfl rfl (Nat.le_refl _) (fun _ _ _ => rfl) (Le.refl w M) (fun _ _ h => .inl h)
    subst h3
    by_cases hroom : us.length + vs.length ≤ g.cap
    · -- within the capacity
      obtain ⟨w', M', G', f1, f2, f3, f4⟩ := inplace_row (P := P) (us := us) hst hg hH hys hysm hyso (by rw [hel]; exact hroom)
      rw [hel, hyl] at f3
      refine ⟨_, _, _, w', M', G', h, f1, f2, f3, ?_⟩
      have hf := hfc w (fun _ _ _ => rfl)
      unfold Builtin.append_
      rw [hel] at f4
      have had : (⟨g.blk, 0, none⟩ : Addr).add (us.length * m') = ⟨g.blk, us.length * m', none⟩ := by rw [addr_add]; simp
      rw [hyl] at hlen hf hroom
      simp [run_underlying (elemT_under he), run_underlying (elemT_under he'), run_sizeOf hm, hlen, hf, hroom, had, f4]
    · obtain ⟨xx, w', M', G', f1, f2, f3, f4⟩ := grow_row (ty := o.type) hst0 he he' hm hby hz hzl hm0 (VRs.ext h1 hext0) h2 (VRs.ext hys hext0) hysm hyso hlen hfc (by omega) (by rw [hyl]; exact hb) hbb
      rw [List.length_set] at f3
      rw [hyl] at f3
      exact ⟨_, _, xx, w', M', G', h, hext0.trans f1, f2, f3, f4⟩
end
end Go.V
