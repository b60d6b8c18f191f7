/- Texts of this proof, joined. -/
import Derived.Test.YtjigahnncojikaaPaa
import Derived.Laws.Strings
import Derived.Laws.StructEq

/-
  The value logic, part e: the operations that yield a value, as the model carries them out.
-/
namespace Go.V
open Go Go.RowKit
set_option linter.unusedVariables false
set_option linter.unusedSimpArgs false

section
variable {P : Program} {w : World} {M : Nat → Nat → Prop} {G : List Gh} {H : List Ent} {n : Nat} {af : AF} {a : Act} {k : AV → Prop}

/-- The operation yields a value that is read as one of which k holds; the world stays. -/
def Yd (P : Program) (w : World) (M : Nat → Nat → Prop) (G : List Gh) (a : Act) (o : Oper) (k : AV → Prop) : Prop :=
  ∃ v x, k v ∧ VR w M G v x ∧ (execOp a.eval o).run P w = .ok (.value x) w

theorem Yd.of {o : Oper} {s : Sem Value} (he : execOp a.eval o = (do pure (.value (← s)))) (h : ∃ v x, k v ∧ VR w M G v x ∧ s.run P w = .ok x w) : Yd P w M G a o k := by
  obtain ⟨v, x, h1, h2, h3⟩ := h
  exact ⟨v, x, h1, h2, by rw [he]; simp only [Sem.run_bind, h3, Result.andThen_ok, Sem.run_pure]⟩

theorem yd_mov {o : Oper} {x : Operand} {y : Opd} (ho : o.op = .move x ∨ o.op = .assign x) (hy : cO x = some y) (hr : RelF w M G n af a) (h : (evv af H (.mov y)).bnd k) : Yd P w M G a o k := by
  refine ⟨_, _, h, cO_sound hy hr, ?_⟩
  rcases ho with ho | ho <;> simp [execOp, ho]

theorem yd_pick {o : Oper} {c x y : Operand} {c' x' y' : Opd} (ho : o.op = .pick c x y) (hc : cO c = some c') (hx : cO x = some x') (hy : cO y = some y') (hr : RelF w M G n af a)
    (h : (evv af H (.pick c' x' y')).bnd k) : Yd P w M G a o k := by
  have h1 := cO_sound hc hr
  have h2 := cO_sound hx hr
  have h3 := cO_sound hy hr
  simp only [evv] at h
  cases hv : gt af c' <;> simp only [hv, pickv, Rs.bnd] at h
  rename_i b
  rw [hv] at h1
  simp only [VR] at h1
  refine ⟨_, if b then a.eval x else a.eval y, h, ?_, by simp [execOp, ho, h1, asBool]⟩
  cases b
  · simpa using h3
  · simpa using h2

theorem yd_ld {o : Oper} {t : TypeId} {x : Operand} {y : Opd} {g : Bool} {m : Nat} (ho : o.op = .load t x) (hg : aggT P t = some g) (hm : sizeT P t = some m) (hy : cO x = some y)
    (hst : St w M G H) (hr : RelF w M G n af a) (h : (evv af H (.ld g m y)).bnd k) : Yd P w M G a o k :=
  Yd.of (by simp only [execOp, ho]) (ldv_sound hst hg hm (cO_sound hy hr) h)

theorem yd_fad {o : Oper} {t : TypeId} {x : Operand} {y : Opd} {f m : Nat} {fs : Array Field} {fl : Field} (ho : o.op = .fieldAddr t x f) (hu : P.underlying t = some (.struct fs)) (hf : fs[f]? = some fl)
    (hm : sizeT P fl.type = some m) (hm0 : 0 < m) (hy : cO x = some y) (hr : RelF w M G n af a) (h : (evv af H (.fad y fl.offset)).bnd k) : Yd P w M G a o k := by
  refine Yd.of (s := Instr.fieldAt t (a.eval x) f) (by simp only [execOp, ho]) ?_
  obtain ⟨v, b, o', h1, h2, h3⟩ := fadv_sound (cO_sound hy hr) h
  refine ⟨v, _, h1, h2, ?_⟩
  rw [h3]
  simp only [Instr.fieldAt, Sem.run_bind, run_underlying hu, Result.andThen_ok, hf, Instr.sureAddr, Sem.run_pure, fieldPlace, run_sizeOf hm, Sem.run_ite, if_neg (Nat.pos_iff_ne_zero.1 hm0), addr_add]

theorem yd_fld {o : Oper} {t : TypeId} {x : Operand} {y : Opd} {f m : Nat} {g : Bool} {fs : Array Field} {fl : Field} (ho : o.op = .field t x f) (hu : P.underlying t = some (.struct fs)) (hf : fs[f]? = some fl)
    (hm : sizeT P fl.type = some m) (hg : aggT P fl.type = some g) (hy : cO x = some y) (hr : RelF w M G n af a) (h : (evv af H (.fld g m fl.offset y)).bnd k) : Yd P w M G a o k := by
  refine Yd.of (s := Instr.field t (a.eval x) f) (by simp only [execOp, ho]) ?_
  have hv := cO_sound hy hr
  simp only [evv] at h
  cases hx : gt af y <;> simp only [hx, fldv, Rs.bnd] at h
  rw [hx] at hv
  obtain ⟨vs, he, hv⟩ := hv
  obtain ⟨v, z, h1, h2, h3⟩ := part_sound hg hm hv h
  exact ⟨v, z, h1, h2, by simp only [Instr.field, Sem.run_bind, run_underlying hu, Result.andThen_ok, hf, he, asAgg, Sem.run_pure, h3]⟩

theorem yd_iad {o : Oper} {t e : TypeId} {x i : Operand} {y j : Opd} {m : Nat} (ho : o.op = .indexAddr t x i) (hu : P.underlying t = some (.slice e)) (hm : sizeT P e = some m)
    (hy : cO x = some y) (hj : cO i = some j) (hr : RelF w M G n af a) (h : (evv af H (.iad m y j)).bnd k) : Yd P w M G a o k := by
  refine Yd.of (s := Instr.indexAt t (a.eval x) (a.eval i)) (by simp only [execOp, ho]) ?_
  have hv := cO_sound hy hr
  have hi := cO_sound hj hr
  simp only [evv] at h
  cases hx : gt af y <;> cases hz : gt af j <;> simp only [hx, hz, iadv, Rs.bnd] at h
  all_goals
    rw [hx] at hv; rw [hz] at hi
    simp only [VR] at hi
  · rename_i n' es kk z
    obtain ⟨⟨rfl, h0, hlt⟩, h⟩ := h
    obtain ⟨ad, cap, us, h1, h2, h3⟩ := hv
    have hul := VRs_length h1
    cases ad with
    | none =>
      obtain ⟨h4, h5, h6, h7⟩ := h2
      have h7 : cap = 0 := h7
      omega
    | some ad =>
      have hsp := (h2.2.2.2.resolve_left (fun e => by subst e; simp at hul; omega)).1
      refine ⟨_, .pointer (some ⟨ad.block, ad.off + (z.toNat * n' + 0), none⟩), h, ⟨ad, cap, us, h1, h2, by omega, rfl⟩, ?_⟩
      have hc : 0 ≤ z ∧ z < (us.length : Int) := ⟨h0, by rw [hul]; exact hlt⟩
      simp only [Instr.indexAt, h3, hi.1, asIntOf, Sem.run_bind, Sem.run_pure, Result.andThen_ok, run_underlying hu, Sem.run_ite, if_pos hc, run_sizeOf hm, addr_add' hsp, Nat.add_zero]
  · rename_i n' es kk z
    obtain ⟨⟨rfl, h0, hlt⟩, h⟩ := h
    obtain ⟨ad, us, h1, h2, h3⟩ := hv
    have hul := VRs_length h1
    cases ad with
    | none =>
      obtain ⟨h4, h5, h6, h7⟩ := h2
      have h7 : us.length = 0 := h7
      omega
    | some ad =>
      have hsp := (h2.2.2.2.resolve_left (fun e => by subst e; simp at hul; omega)).1
      refine ⟨_, .pointer (some ⟨ad.block, ad.off + (z.toNat * n' + 0), none⟩), h, ⟨ad, us.length, us, h1, h2, by omega, rfl⟩, ?_⟩
      have hc : 0 ≤ z ∧ z < (us.length : Int) := ⟨h0, by rw [hul]; exact hlt⟩
      simp only [Instr.indexAt, h3, hi.1, asIntOf, Sem.run_bind, Sem.run_pure, Result.andThen_ok, run_underlying hu, Sem.run_ite, if_pos hc, run_sizeOf hm, addr_add' hsp, Nat.add_zero]
  · rename_i i' len kk z
    obtain ⟨⟨h0, hlt⟩, h⟩ := h
    obtain ⟨g, hg, h3⟩ := hv
    refine ⟨_, .pointer (some ⟨g.blk, z.toNat * m + 0, none⟩), h, ⟨g, hg, rfl⟩, ?_⟩
    have hc : 0 ≤ z ∧ z < (len : Int) := ⟨h0, hlt⟩
    simp only [Instr.indexAt, h3, hi.1, asIntOf, Sem.run_bind, Sem.run_pure, Result.andThen_ok, run_underlying hu, Sem.run_ite, if_pos hc, run_sizeOf hm, addr_add, Nat.add_zero, Nat.zero_add]

theorem yd_aad {o : Oper} {t e : TypeId} {x i : Operand} {y j : Opd} {m len : Nat} (ho : o.op = .indexAddr t x i) (hu : P.underlying t = some (.array len e)) (hm : sizeT P e = some m)
    (hy : cO x = some y) (hj : cO i = some j) (hr : RelF w M G n af a) (h : (evv af H (.aad m len y j)).bnd k) : Yd P w M G a o k := by
  refine Yd.of (s := Instr.indexAt t (a.eval x) (a.eval i)) (by simp only [execOp, ho]) ?_
  have hv := cO_sound hy hr
  have hi := cO_sound hj hr
  simp only [evv] at h
  cases hx : gt af y <;> cases hz : gt af j <;> simp only [hx, hz, aadv, Rs.bnd] at h
  rw [hx] at hv; rw [hz] at hi
  simp only [VR] at hi
  obtain ⟨⟨h0, hlt⟩, h⟩ := h
  obtain ⟨g, hg, h3⟩ := hv
  rename_i off kk z
  refine ⟨_, .pointer (some ⟨g.blk, off + z.toNat * m, none⟩), h, ⟨g, hg, rfl⟩, ?_⟩
  have hc : 0 ≤ z ∧ z < (len : Int) := ⟨h0, hlt⟩
  simp only [Instr.indexAt, h3, hi.1, asIntOf, Sem.run_bind, Sem.run_pure, Result.andThen_ok, run_underlying hu, Sem.run_ite, if_pos hc, run_sizeOf hm, addr_add, Instr.sureAddr]

theorem yd_idx {o : Oper} {t : TypeId} {x i : Operand} {y j : Opd} (ho : o.op = .index t x i) (hu : P.underlying t = some .string)
    (hy : cO x = some y) (hj : cO i = some j) (hr : RelF w M G n af a) (h : (evv af H (.idx y j)).bnd k) : Yd P w M G a o k := by
  refine Yd.of (s := Instr.index t (a.eval x) (a.eval i)) (by simp only [execOp, ho]) ?_
  have hv := cO_sound hy hr
  have hi := cO_sound hj hr
  simp only [evv] at h
  cases hx : gt af y <;> cases hz : gt af j <;> simp only [hx, hz, idxv, Rs.bnd] at h
  rw [hx] at hv; rw [hz] at hi
  simp only [VR] at hi hv
  obtain ⟨⟨h0, hlt⟩, h⟩ := h
  rename_i l kk z
  have hzl : z.toNat < l.length := by omega
  refine ⟨_, .int .u8 (l.getD z.toNat 0).toNat, h, ?_, ?_⟩
  · generalize l.getD z.toNat 0 = b
    simp only [VR, true_and]
    have := b.toNat_lt
    simp [Lit.wf, IntKind.min, IntKind.max, IntKind.signed, IntKind.bits]
    omega
  · have hs : (⟨l.toArray⟩ : ByteArray)[z.toNat]? = some (l.getD z.toNat 0) := by
      rw [getElem?_pos (⟨l.toArray⟩ : ByteArray) z.toNat (by simpa [ByteArray.size] using hzl)]
      simp [ByteArray.getElem_eq_getElem_data, List.getD, hzl]
    simp only [Instr.index, hv.1, hi.1, asIntOf, Sem.run_bind, Sem.run_pure, Result.andThen_ok, run_underlying hu, if_pos h0, hs]

theorem yd_ida {o : Oper} {t e : TypeId} {x i : Operand} {y j : Opd} {m len : Nat} {g : Bool} (ho : o.op = .index t x i) (hu : P.underlying t = some (.array len e)) (hm : sizeT P e = some m) (hg : aggT P e = some g)
    (hy : cO x = some y) (hj : cO i = some j) (hr : RelF w M G n af a) (h : (evv af H (.ida g m len y j)).bnd k) : Yd P w M G a o k := by
  refine Yd.of (s := Instr.index t (a.eval x) (a.eval i)) (by simp only [execOp, ho]) ?_
  have hv := cO_sound hy hr
  have hi := cO_sound hj hr
  simp only [evv] at h
  cases hx : gt af y <;> cases hz : gt af j <;> simp only [hx, hz, idav, Rs.bnd] at h
  rw [hx] at hv; rw [hz] at hi
  simp only [VR] at hi
  obtain ⟨vs, he, hv⟩ := hv
  obtain ⟨⟨h0, hlt⟩, h⟩ := h
  obtain ⟨v, z', h1, h2, h3⟩ := part_sound hg hm hv h
  refine ⟨v, z', h1, h2, ?_⟩
  simp only [Instr.index, he, hi.1, asIntOf, Sem.run_bind, Sem.run_pure, Result.andThen_ok, run_underlying hu, Sem.run_ite, if_pos (And.intro h0 hlt), run_sizeOf hm, h3]

theorem wf_len {m : Nat} (hm : m ≤ maxLen) : VR w M G (.int .i64 (m : Int)) (goInt m) := by
  refine ⟨rfl, ?_⟩
  unfold maxLen at hm
  simp [Lit.wf, IntKind.min, IntKind.max, IntKind.signed, IntKind.bits]
  omega

theorem lenv_sound {s : Bool} {t : TypeId} {p : AV} {x : Value} {ty : TypeId} (hu : if s then P.underlying t = some .string else ∃ e, P.underlying t = some (.slice e)) (hv : VR w M G p x)
    (h : (lenv s p).bnd k) : ∃ v z, k v ∧ VR w M G v z ∧ (Builtin.len_ #[t] ty #[x]).run P w = .ok z w := by
  unfold Builtin.len_
  cases s with
  | true =>
    simp only [if_true] at hu
    cases p <;> simp only [lenv, Rs.bnd] at h
    obtain ⟨rfl, hl⟩ := hv
    refine ⟨_, _, h, wf_len hl, ?_⟩
    simp [run_underlying hu]
    rfl
  | false =>
    simp only [Bool.false_eq_true, if_false] at hu
    obtain ⟨e, hu⟩ := hu
    cases p <;> simp only [lenv, Rs.bnd] at h
    case nils =>
      simp only [VR] at hv; subst hv
      refine ⟨_, _, h, wf_len (m := 0) (by simp), ?_⟩
      simp [run_underlying hu]
    case sl n' es =>
      obtain ⟨a', cap, us, h1, h2, rfl⟩ := hv
      have := VRs_length h1
      rw [← this] at h
      exact ⟨_, _, h, wf_len (Nat.le_trans h2.1 h2.2.1), by simp [run_underlying hu]⟩
    case lit n' es =>
      obtain ⟨a', us, h1, h2, rfl⟩ := hv
      have := VRs_length h1
      rw [← this] at h
      exact ⟨_, _, h, wf_len h2.2.1, by simp [run_underlying hu]⟩
    case row i len =>
      obtain ⟨g, hg, rfl⟩ := hv
      exact ⟨_, _, h.2, wf_len h.1, by simp [run_underlying hu]⟩
    case vw i off len cap =>
      obtain ⟨g, hg, rfl⟩ := hv
      exact ⟨_, _, h.2, wf_len h.1, by simp [run_underlying hu]⟩

theorem run_builtin {o : Oper} {c : Call} {b : Builtin} (ho : o.op = .call c) (hc : c.callee = .builtin b) {s : Sem Value}
    (hs : ∀ cs, builtin b c.argTypes o.type cs (c.args.map a.eval) = (do pure (.value (← s)))) : execOp a.eval o = (do pure (.value (← s))) := by
  have hp : ∀ {α β : Type} (x : α) (f : α → Sem β), (pure x >>= f) = f x := fun x f => rfl
  simp only [execOp, ho, resolve, hc, hp, invoke, hs]

theorem yd_len {o : Oper} {c : Call} {t : TypeId} {x : Operand} {y : Opd} {s : Bool} (ho : o.op = .call c) (hc : c.callee = .builtin .len) (hx : c.args.toList = [x]) (ht : c.argTypes.toList = [t])
    (hu : if s then P.underlying t = some .string else ∃ e, P.underlying t = some (.slice e)) (hy : cO x = some y) (hr : RelF w M G n af a) (h : (evv af H (.len s y)).bnd k) : Yd P w M G a o k := by
  have hargs : c.args = #[x] := by rw [← hx]
  have htys : c.argTypes = #[t] := by rw [← ht]
  refine Yd.of (run_builtin ho hc (fun cs => ?_)) (lenv_sound (ty := o.type) hu (cO_sound hy hr) h)
  simp [builtin, hargs, htys]

theorem yd_mm {o : Oper} {c : Call} {x x' : Operand} {y y' : Opd} {big : Bool} (ho : o.op = .call c) (hc : c.callee = .builtin (if big then .max else .min)) (hx : c.args.toList = [x, x'])
    (hy : cO x = some y) (hy' : cO x' = some y') (hr : RelF w M G n af a) (h : (evv af H (.mm big y y')).bnd k) : Yd P w M G a o k := by
  have hargs : c.args = #[x, x'] := by rw [← hx]
  have h1 := cO_sound hy hr
  have h2 := cO_sound hy' hr
  simp only [evv] at h
  cases hg : gt af y <;> cases hg' : gt af y' <;> simp only [hg, hg', mmv, Rs.bnd] at h
  rw [hg] at h1; rw [hg'] at h2
  split at h
  · rename_i hk
    subst hk
    cases big
    · simp only [Rs.bnd] at h
      refine Yd.of (run_builtin (s := Builtin.min_ c.argTypes o.type (c.args.map a.eval)) ho hc (fun cs => by simp [builtin])) ⟨_, _, h, ⟨rfl, ?_⟩, ?_⟩
      · split
        · exact h2.2
        · exact h1.2
      · simp [hargs, Builtin.min_, h1.1, h2.1, Builtin.min2]
    · simp only [Rs.bnd] at h
      refine Yd.of (run_builtin (s := Builtin.max_ c.argTypes o.type (c.args.map a.eval)) ho hc (fun cs => by simp [builtin])) ⟨_, _, h, ⟨rfl, ?_⟩, ?_⟩
      · split
        · exact h2.2
        · exact h1.2
      · simp [hargs, Builtin.max_, h1.1, h2.1, Builtin.max2]
  · simp only [Rs.bnd] at h

theorem gto_sound {x : Option Operand} {y : Option Opd} (h : cOo x = some y) (hr : RelF w M G n af a) : (x = none ∧ gto af y = none) ∨ ∃ o z, x = some o ∧ gto af y = some z ∧ VR w M G z (a.eval o) := by
  cases x with
  | none => simp [cOo] at h; subst h; exact .inl ⟨rfl, rfl⟩
  | some o => simp [cOo] at h; obtain ⟨z, hz, rfl⟩ := h; exact .inr ⟨o, _, rfl, rfl, cO_sound hz hr⟩

theorem run_sliceBound {kk : IntKind} {z : Int} {y : Nat} {code : BoundsCode} (h0 : 0 ≤ z) (h1 : z ≤ y) : (Instr.sliceBound (.int kk z) y code).run P w = .ok z.toNat w := by
  simp [Instr.sliceBound, asIntOf, h0, h1]

theorem bytes_extract (l : List UInt8) (i j : Nat) : (⟨l.toArray⟩ : ByteArray).extract i j = ⟨((l.take j).drop i).toArray⟩ := by
  apply ByteArray.ext
  simp [ByteArray.data_extract]
  rw [List.drop_take]

theorem yd_sls {o : Oper} {t : TypeId} {x : Operand} {lo hi : Option Operand} {y : Opd} {l h' : Option Opd} (ho : o.op = .slice t x lo hi none) (hu : P.underlying t = some .string)
    (hy : cO x = some y) (hl : cOo lo = some l) (hh : cOo hi = some h') (hr : RelF w M G n af a) (h : (evv af H (.sls y l h')).bnd k) : Yd P w M G a o k := by
  refine Yd.of (s := Instr.sliceAt t (a.eval x) (lo.map a.eval) (hi.map a.eval) none) (by simp only [execOp, ho]; rfl) ?_
  have hv := cO_sound hy hr
  have hlo := gto_sound hl hr
  have hhi := gto_sound hh hr
  simp only [evv] at h
  cases hx : gt af y <;> simp only [hx, slsv, Rs.bnd] at h
  rename_i s
  rw [hx] at hv
  obtain ⟨hv, hs⟩ := hv
  have hsz : (⟨s.toArray⟩ : ByteArray).size = s.length := by simp [ByteArray.size]
  rcases hlo with ⟨rfl, hlo⟩ | ⟨lo', zl, rfl, hlo, hvl⟩ <;> rcases hhi with ⟨rfl, hhi⟩ | ⟨hi', zh, rfl, hhi, hvh⟩ <;> simp only [hlo, hhi] at h
  · simp only [slsv, Rs.bnd] at h
    refine ⟨_, _, h, ⟨rfl, hs⟩, ?_⟩
    simp only [Instr.sliceAt, run_underlying hu, Sem.run_bind, Result.andThen_ok, Instr.slice, hv, Option.map_none, Option.isSome_none, Bool.false_eq_true, if_false, Instr.sliceBounds, Sem.run_pure, hsz, bytes_extract]
    simp
  · cases zh <;> simp only [slsv, Rs.bnd] at h
    rename_i kk z
    obtain ⟨⟨h0, h1⟩, h⟩ := h
    refine ⟨_, _, h, ⟨rfl, by simp; omega⟩, ?_⟩
    have hb := hvh.1
    simp only [Instr.sliceAt, run_underlying hu, Sem.run_bind, Result.andThen_ok, Instr.slice, hv, Option.map_none, Option.map_some, Option.isSome_none, Bool.false_eq_true, if_false, Instr.sliceBounds, Sem.run_pure, hsz, hb, run_sliceBound h0 h1, bytes_extract]
    simp
  · cases zl <;> simp only [slsv, Rs.bnd] at h
    rename_i kk z
    obtain ⟨⟨h0, h1⟩, h⟩ := h
    refine ⟨_, _, h, ⟨rfl, by simp; omega⟩, ?_⟩
    have hb := hvl.1
    simp only [Instr.sliceAt, run_underlying hu, Sem.run_bind, Result.andThen_ok, Instr.slice, hv, Option.map_none, Option.map_some, Option.isSome_none, Bool.false_eq_true, if_false, Instr.sliceBounds, Sem.run_pure, hsz, hb, run_sliceBound h0 h1, bytes_extract]
    simp
  · cases zl <;> cases zh <;> simp only [slsv, Rs.bnd] at h
    rename_i kk z kk' z'
    obtain ⟨⟨h0, h1, h2, h3⟩, h⟩ := h
    refine ⟨_, _, h, ⟨rfl, by simp; omega⟩, ?_⟩
    have hb := hvl.1
    have hb' := hvh.1
    have h4 : z ≤ ((z'.toNat : Nat) : Int) := by omega
    simp only [Instr.sliceAt, run_underlying hu, Sem.run_bind, Result.andThen_ok, Instr.slice, hv, Option.map_none, Option.map_some, Option.isSome_none, Bool.false_eq_true, if_false, Instr.sliceBounds, Sem.run_pure, hsz, hb, hb', run_sliceBound h0 h1, run_sliceBound h2 h4, bytes_extract]

theorem SlOK_part {m cap : Nat} {us : List Value} {ad : Option Addr} (h : SlOK w M m us ad cap) {i j c : Nat} (hij : i ≤ j) (hj : j ≤ us.length) (hc : j - i ≤ c) (hcc : c ≤ cap) (hn : ad = none → c = 0) :
    SlOK w M m ((us.take j).drop i) (ad.map fun d => ⟨d.block, d.off + i * m, none⟩) c := by
  obtain ⟨h1, h2, h3, h4⟩ := h
  refine ⟨by simp; omega, by omega, fun u hu => h3 u (List.mem_of_mem_take (List.mem_of_mem_drop hu)), ?_⟩
  cases ad with
  | none => exact hn rfl
  | some d =>
    rcases h4 with h4 | ⟨h5, h6⟩
    · subst h4; exact .inl (by simp)
    refine .inr ⟨rfl, fun q v hq => ?_⟩
    have hsplit : (us.flatMap (·.cells.toList)) = ((us.take i).flatMap (·.cells.toList)) ++ ((((us.take j).drop i).flatMap (·.cells.toList)) ++ ((us.drop j).flatMap (·.cells.toList))) := by
      rw [← List.flatMap_append, ← List.flatMap_append]
      congr 1
      rw [← List.append_assoc]
      have e1 : us.take i = (us.take j).take i := by rw [List.take_take]; congr 1; omega
      rw [e1, List.take_append_drop, List.take_append_drop]
    have hlen : ((us.take i).flatMap (·.cells.toList)).length = i * m := by
      rw [flat_length (fun u hu => h3 u (List.mem_of_mem_take hu))]
      rw [List.length_take, Nat.min_eq_left (by omega)]
    have := h6 (i * m + q) v (by
      rw [hsplit, List.getElem?_append_right (by omega), hlen]
      rw [List.getElem?_append_left (by have := (List.getElem?_eq_some_iff.1 hq).1; omega)]
      rw [show i * m + q - i * m = q by omega]
      exact hq)
    simp only [Nat.add_assoc]
    exact this

theorem map_add {ad : Option Addr} (hsp : ∀ d, ad = some d → d.spot = none) (q : Nat) : ad.map (·.add q) = ad.map fun d => ⟨d.block, d.off + q, none⟩ := by
  cases ad with
  | none => rfl
  | some d => simp [addr_add' (hsp d rfl)]

/-- A piece of a slice is read as the piece. -/
theorem VR_piece {m cap i j c : Nat} {es : List AV} {us : List Value} {ad : Option Addr} (h1 : VRs w M G es us) (h : SlOK w M m us ad cap) (hij : i ≤ j) (hj : j ≤ es.length) (hjc : j ≤ c) (hcc : c ≤ cap) :
    ∃ ad', SlOK w M m ((us.take j).drop i) ad' (c - i) ∧ Value.slice (if c = i then ad else ad.map (·.add (i * m))) (j - i) (c - i) = .slice ad' ((us.take j).drop i).length (c - i) ∧ VRs w M G ((es.take j).drop i) ((us.take j).drop i) := by
  have hul := VRs_length h1
  have hlen : ((us.take j).drop i).length = j - i := by simp; omega
  by_cases hus : us = []
  · subst hus
    have hi0 : i = 0 := by simp at hul; omega
    have hj0 : j = 0 := by simp at hul; omega
    subst hi0 hj0
    refine ⟨if c = 0 then ad else ad.map (·.add (0 * m)), ⟨by simp, by have := h.2.1; omega, by simp, ?_⟩, by simp, VRs_drop (VRs_take h1 0) 0⟩
    cases ad with
    | none =>
      have h4 : cap = 0 := h.2.2.2
      by_cases hc0 : c = 0
      · rw [if_pos hc0]; show c - 0 = 0; omega
      · rw [if_neg hc0]; show c - 0 = 0; omega
    | some d =>
      by_cases hc0 : c = 0
      · rw [if_pos hc0]; exact .inl rfl
      · rw [if_neg hc0]; exact .inl rfl
  have hsp : ∀ d, ad = some d → d.spot = none := fun d hd => by subst hd; exact (h.2.2.2.resolve_left hus).1
  by_cases hci : c = i
  · refine ⟨ad, ?_, by rw [if_pos hci, hlen], VRs_drop (VRs_take h1 j) i⟩
    have hnil : (us.take j).drop i = [] := List.eq_nil_of_length_eq_zero (by rw [hlen]; omega)
    rw [hnil]
    refine ⟨by simp, by have := h.2.1; omega, by simp, ?_⟩
    cases ad with
    | none => show c - i = 0; omega
    | some d => exact .inl rfl
  · rw [if_neg hci, map_add hsp]
    refine ⟨ad.map fun d => ⟨d.block, d.off + i * m, none⟩, SlOK_part h hij (by omega) (by omega) (by omega) (fun hn => ?_), by rw [hlen], VRs_drop (VRs_take h1 j) i⟩
    subst hn
    have : cap = 0 := h.2.2.2
    omega

theorem slp_sound {t e : TypeId} {m cap : Nat} {es : List AV} {us : List Value} {ad : Option Addr} {lo hi : Option Value} {lo' hi' : Option AV} (hu : P.underlying t = some (.slice e)) (hm : sizeT P e = some m)
    (h1 : VRs w M G es us) (h2 : SlOK w M m us ad cap) (hlo : (lo = none ∧ lo' = none) ∨ ∃ o z, lo = some o ∧ lo' = some z ∧ VR w M G z o) (hhi : (hi = none ∧ hi' = none) ∨ ∃ o z, hi = some o ∧ hi' = some z ∧ VR w M G z o)
    (h : (slp m es lo' hi').bnd k) : ∃ v x, k v ∧ VR w M G v x ∧ (Instr.sliceAt t (.slice ad us.length cap) lo hi none).run P w = .ok x w := by
  have hul := VRs_length h1
  have hcap := h2.1
  rcases hlo with ⟨rfl, rfl⟩ | ⟨lo0, zl, rfl, rfl, hvl⟩ <;> rcases hhi with ⟨rfl, rfl⟩ | ⟨hi0, zh, rfl, rfl, hvh⟩
  · simp only [slp, Rs.bnd] at h
    obtain ⟨ad', h3, h4, h5⟩ := VR_piece (c := cap) h1 h2 (Nat.zero_le us.length) (by omega) hcap (Nat.le_refl _)
    have e1 : (es.take us.length).drop 0 = es := by rw [hul]; simp
    rw [e1] at h5
    refine ⟨_, _, h, ⟨ad', cap, _, h5, by simpa using h3, rfl⟩, ?_⟩
    simp only [Instr.sliceAt, run_underlying hu, Sem.run_bind, Result.andThen_ok, Instr.slice, Instr.sliceBounds, Sem.run_pure, run_sizeOf hm]
    rw [h4]; simp
  · cases zh <;> simp only [slp, Rs.bnd] at h
    rename_i kk z
    obtain ⟨⟨g0, g1⟩, h⟩ := h
    have hzn : z.toNat ≤ es.length := by omega
    obtain ⟨ad', h3, h4, h5⟩ := VR_piece (c := cap) h1 h2 (Nat.zero_le z.toNat) hzn (by omega) (Nat.le_refl _)
    rw [List.drop_zero] at h5
    refine ⟨_, _, h, ⟨ad', cap, _, h5, by simpa using h3, rfl⟩, ?_⟩
    have g2 : z ≤ ((cap : Nat) : Int) := by omega
    simp only [Instr.sliceAt, run_underlying hu, Sem.run_bind, Result.andThen_ok, Instr.slice, Instr.sliceBounds, Sem.run_pure, run_sizeOf hm, hvh.1, if_true, run_sliceBound g0 g2]
    rw [h4]; simp
  · cases zl <;> simp only [slp, Rs.bnd] at h
    rename_i kk z
    obtain ⟨⟨g0, g1⟩, h⟩ := h
    have hzn : z.toNat ≤ us.length := by omega
    obtain ⟨ad', h3, h4, h5⟩ := VR_piece (c := cap) h1 h2 hzn (by omega) hcap (Nat.le_refl _)
    have e1 : (es.take us.length).drop z.toNat = es.drop z.toNat := by rw [hul, List.take_length]
    rw [e1] at h5
    refine ⟨_, _, h, ⟨ad', cap - z.toNat, _, h5, h3, rfl⟩, ?_⟩
    have g2 : z ≤ ((us.length : Nat) : Int) := by omega
    simp only [Instr.sliceAt, run_underlying hu, Sem.run_bind, Result.andThen_ok, Instr.slice, Instr.sliceBounds, Sem.run_pure, run_sizeOf hm, hvl.1, Option.isSome_none, Bool.false_eq_true, if_false, run_sliceBound g0 g2]
    rw [h4]
  · cases zl <;> cases zh <;> simp only [slp, Rs.bnd] at h
    rename_i kk z kk' z'
    obtain ⟨⟨g0, g1, g3, g4⟩, h⟩ := h
    have hzn : z.toNat ≤ z'.toNat := by omega
    obtain ⟨ad', h3, h4, h5⟩ := VR_piece (c := cap) h1 h2 hzn (by omega) (by omega) (Nat.le_refl _)
    refine ⟨_, _, h, ⟨ad', cap - z.toNat, _, h5, h3, rfl⟩, ?_⟩
    have g2 : z' ≤ ((cap : Nat) : Int) := by omega
    have g5 : z ≤ ((z'.toNat : Nat) : Int) := by omega
    simp only [Instr.sliceAt, run_underlying hu, Sem.run_bind, Result.andThen_ok, Instr.slice, Instr.sliceBounds, Sem.run_pure, run_sizeOf hm, hvl.1, hvh.1, Option.isSome_none, Bool.false_eq_true, if_false, if_true, run_sliceBound g0 g2, run_sliceBound g3 g5]
    rw [h4]

theorem slf_sound {t e : TypeId} {m cap : Nat} {es : List AV} {us : List Value} {ad : Option Addr} {lo hi : Option Value} {lo' hi' : Option AV} {mx : Value} {mx' : AV} (hu : P.underlying t = some (.slice e)) (hm : sizeT P e = some m)
    (h1 : VRs w M G es us) (h2 : SlOK w M m us ad cap) (hlo : (lo = none ∧ lo' = none) ∨ ∃ o z, lo = some o ∧ lo' = some z ∧ VR w M G z o) (hhi : (hi = none ∧ hi' = none) ∨ ∃ o z, hi = some o ∧ hi' = some z ∧ VR w M G z o)
    (hmx : VR w M G mx' mx) (h : (slf m es lo' hi' (some mx')).bnd k) : ∃ v x, k v ∧ VR w M G v x ∧ (Instr.sliceAt t (.slice ad us.length cap) lo hi (some mx)).run P w = .ok x w := by
  have hul := VRs_length h1
  have hcap := h2.1
  rcases hlo with ⟨rfl, rfl⟩ | ⟨lo0, zl, rfl, rfl, hvl⟩ <;> rcases hhi with ⟨rfl, rfl⟩ | ⟨hi0, zh, rfl, rfl, hvh⟩
  · simp only [slf, Rs.bnd] at h
  · cases zh <;> cases mx' <;> simp only [slf, Rs.bnd] at h
    rename_i kk z kk' z'
    obtain ⟨⟨g0, g1, rfl⟩, h⟩ := h
    have hzn : z'.toNat ≤ es.length := by omega
    obtain ⟨ad', h3, h4, h5⟩ := VR_piece (c := z'.toNat) h1 h2 (Nat.zero_le z'.toNat) hzn (Nat.le_refl _) (by omega)
    simp only [List.drop_zero] at h5 h3 h4
    have hl : (us.take z'.toNat).length = z'.toNat := by simp; omega
    refine ⟨_, .slice ad' (us.take z'.toNat).length (us.take z'.toNat).length, h, ⟨ad', _, h5, by rw [hl]; simpa using h3, rfl⟩, ?_⟩
    have g2 : z' ≤ ((cap : Nat) : Int) := by omega
    have g5 : z' ≤ ((z'.toNat : Nat) : Int) := by omega
    simp only [Instr.sliceAt, run_underlying hu, Sem.run_bind, Result.andThen_ok, Instr.slice, Instr.sliceBounds, Sem.run_pure, run_sizeOf hm, hvh.1, hmx.1, if_true, run_sliceBound g0 g2, run_sliceBound g0 g5]
    rw [h4, hl]; simp
  · simp only [slf, Rs.bnd] at h
  · simp only [slf, Rs.bnd] at h

theorem row_SlOK {g : Gh} {m len : Nat} {es : List AV} (hrow : RowOK w M G g m es) (hM : ∀ o, M g.blk o ↔ o < m * es.length) (hl : es.length = len) :
    ∃ us, VRs w M G es us ∧ SlOK w M m us (some ⟨g.blk, 0, none⟩) g.cap ∧ us.length = len := by
  obtain ⟨h1, h2, vs, t, us, h3, h4, h5, h6, h7⟩ := hrow
  have hul := VRs_length h5
  refine ⟨us, h5, ⟨by omega, h2, h6, .inr ⟨rfl, fun j v hj => ?_⟩⟩, by omega⟩
  have hj' : (vs.take (m * es.length))[j]? = some v := by rw [h7]; exact hj
  have hlt := (List.getElem?_eq_some_iff.1 hj').1
  simp at hlt
  rw [List.getElem?_take_of_lt (by omega)] at hj'
  simp only [Nat.zero_add]
  exact ⟨by rw [cell_of_heap h3]; exact hj', (hM j).2 (by omega)⟩

theorem yd_slv {o : Oper} {t e : TypeId} {x : Operand} {lo hi mx : Option Operand} {y : Opd} {l h' m' : Option Opd} {m : Nat} (ho : o.op = .slice t x lo hi mx) (hu : P.underlying t = some (.slice e)) (hm : sizeT P e = some m)
    (hy : cO x = some y) (hl : cOo lo = some l) (hh : cOo hi = some h') (hmx : cOo mx = some m') (hst : St w M G H) (hr : RelF w M G n af a) (h : (evv af H (.slv m y l h' m')).bnd k) : Yd P w M G a o k := by
  refine Yd.of (s := Instr.sliceAt t (a.eval x) (lo.map a.eval) (hi.map a.eval) (mx.map a.eval)) (by simp only [execOp, ho]) ?_
  have hv := cO_sound hy hr
  have conv : ∀ {q : Option Operand} {z : Option AV}, ((q = none ∧ z = none) ∨ ∃ o v, q = some o ∧ z = some v ∧ VR w M G v (a.eval o)) → ((q.map a.eval = none ∧ z = none) ∨ ∃ o v, q.map a.eval = some o ∧ z = some v ∧ VR w M G v o) := by
    rintro q z (⟨rfl, rfl⟩ | ⟨o, v, rfl, rfl, h⟩)
    · exact .inl ⟨rfl, rfl⟩
    · exact .inr ⟨_, _, rfl, rfl, h⟩
  have hlo := conv (gto_sound hl hr)
  have hhi := conv (gto_sound hh hr)
  have hmxx := conv (gto_sound hmx hr)
  simp only [evv] at h
  generalize gto af l = lo' at *
  generalize gto af h' = hi' at *
  generalize gto af m' = mx' at *
  rcases hmxx with ⟨e1, rfl⟩ | ⟨mx0, zm, e1, rfl, hvm⟩ <;> rw [e1]
  · cases hx : gt af y <;> simp only [hx, slvv, Rs.bnd] at h <;> rw [hx] at hv
    · rename_i n' es
      obtain ⟨rfl, h⟩ := h
      obtain ⟨ad, cap, us, h1, h2, h3⟩ := hv
      rw [h3]
      exact slp_sound hu hm h1 h2 hlo hhi h
    · rename_i n' es
      obtain ⟨rfl, h⟩ := h
      obtain ⟨ad, us, h1, h2, h3⟩ := hv
      rw [h3]
      exact slp_sound hu hm h1 h2 hlo hhi h
    · rename_i i len
      cases he : ent H i <;> simp only [he, Rs.bnd] at h
      rename_i n' es
      obtain ⟨⟨rfl, hlen⟩, h⟩ := h
      obtain ⟨g, hg, h3⟩ := hv
      obtain ⟨_, hrow, hM⟩ := hst.ok i g _ hg (ent_get he (by simp))
      obtain ⟨us, h1, h2, h4⟩ := row_SlOK hrow hM hlen
      rw [h3, ← h4]
      exact slp_sound hu hm h1 h2 hlo hhi h
  · cases hx : gt af y <;> simp only [hx, slvv, Rs.bnd] at h <;> rw [hx] at hv
    · -- nils
      rcases hlo with ⟨e4, rfl⟩ | ⟨lo0, zl, e4, rfl, hvl⟩
      · cases hi' with
        | none => simp only [slvv, Rs.bnd] at h
        | some zh =>
          cases zh <;> cases zm <;> simp only [slvv, Rs.bnd] at h
          rename_i kk z kk' z'
          obtain ⟨⟨rfl, rfl⟩, h⟩ := h
          simp only [VR] at hv
          rcases hhi with ⟨_, e3⟩ | ⟨hi0, zh, e2, e3, hvh⟩
          · cases e3
          · simp only [Option.some.injEq] at e3
            subst e3
            refine ⟨_, .slice none 0 0, h, rfl, ?_⟩
            rw [e4, e2, hv]
            simp only [Instr.sliceAt, run_underlying hu, Sem.run_bind, Result.andThen_ok, Instr.slice, Instr.sliceBounds, Sem.run_pure, run_sizeOf hm, hvh.1, hvm.1, if_true]
            rw [run_sliceBound (by omega) (by simp)]
            simp only [Result.andThen_ok]
            rw [run_sliceBound (by omega) (by simp)]
            simp
      · simp only [slvv, Rs.bnd] at h
    · rename_i n' es
      obtain ⟨rfl, h⟩ := h
      obtain ⟨ad, cap, us, h1, h2, h3⟩ := hv
      rw [h3]
      exact slf_sound hu hm h1 h2 hlo hhi hvm h
    · rename_i n' es
      obtain ⟨rfl, h⟩ := h
      obtain ⟨ad, us, h1, h2, h3⟩ := hv
      rw [h3]
      exact slf_sound hu hm h1 h2 hlo hhi hvm h
    · rename_i i len
      cases he : ent H i <;> simp only [he, Rs.bnd] at h
      rename_i n' es
      obtain ⟨⟨rfl, hlen⟩, h⟩ := h
      obtain ⟨g, hg, h3⟩ := hv
      obtain ⟨_, hrow, hM⟩ := hst.ok i g _ hg (ent_get he (by simp))
      obtain ⟨us, h1, h2, h4⟩ := row_SlOK hrow hM hlen
      rw [h3, ← h4]
      exact slf_sound hu hm h1 h2 hlo hhi hvm h

theorem yd_mfn {o : Oper} {f : FuncId} {first caps : Array Operand} {l m : List Opd} (ho : o.op = .makeFunc (.func f) first caps) (hl : cOs first.toList = some l) (hm : cOs caps.toList = some m)
    (hr : RelF w M G n af a) (h : (evv af H (.mfn f l m)).bnd k) : Yd P w M G a o k := by
  refine Yd.of (s := Instr.makeFunc (.func f) (first.map a.eval) (caps.map a.eval)) (by simp only [execOp, ho]) ⟨_, _, h, ⟨_, _, cOs_sound hl hr, cOs_sound hm hr, rfl⟩, ?_⟩
  simp only [Instr.makeFunc, Sem.run_pure]
  congr 2 <;> (apply Array.ext'; simp)

theorem wf_wrap (k : IntKind) (z : Int) : (Lit.int k (k.wrap z)).wf = true := by
  cases k <;> simp [Lit.wf, IntKind.wrap, IntKind.min, IntKind.max, IntKind.signed, IntKind.bits] <;> (try split) <;> omega

theorem wf_tmod {k : IntKind} {x y : Int} (hx : (Lit.int k x).wf = true) (hy : y ≠ 0) : (Lit.int k (x.tmod y)).wf = true := by
  have h3 : (x.tmod y).natAbs ≤ x.natAbs := by rw [Int.natAbs_tmod]; exact Nat.mod_le _ _
  rcases Int.le_total 0 x with h0 | h0
  · have h2 := Int.tmod_nonneg y h0
    have h4 : x.tmod y ≤ x := by omega
    cases k <;> simp [Lit.wf, IntKind.min, IntKind.max, IntKind.signed, IntKind.bits] at hx ⊢ <;> omega
  · have hneg : x.tmod y = - ((-x).tmod y) := by rw [Int.neg_tmod]; omega
    have h2 := Int.tmod_nonneg y (show 0 ≤ -x by omega)
    have h4 : x ≤ x.tmod y := by omega
    have h5 : x.tmod y ≤ 0 := by omega
    cases k <;> simp [Lit.wf, IntKind.min, IntKind.max, IntKind.signed, IntKind.bits] at hx ⊢ <;> omega

theorem binI_sound {op : BinOp} {kk : IntKind} {x y : Int} (hx : (Lit.int kk x).wf = true) (hy : (Lit.int kk y).wf = true) (hop : op ≠ .shl ∧ op ≠ .shr) {t : TypeId} (h : (binI op kk x y).bnd k) :
    ∃ v z, k v ∧ VR w M G v z ∧ (Go.binOp op t (.int kk x) (.int kk y)).run P w = .ok z w := by
  cases op <;> simp only [binI, Rs.bnd] at h
  all_goals first | exact h.elim | skip
  case add => exact ⟨_, _, h, ⟨rfl, wf_wrap _ _⟩, by simp [Go.binOp, Op.intArith]⟩
  case sub => exact ⟨_, _, h, ⟨rfl, wf_wrap _ _⟩, by simp [Go.binOp, Op.intArith]⟩
  case mul => exact ⟨_, _, h, ⟨rfl, wf_wrap _ _⟩, by simp [Go.binOp, Op.intArith]⟩
  case quo => exact ⟨_, _, h.2, ⟨rfl, wf_wrap _ _⟩, by simp [Go.binOp, Op.intDiv, h.1]⟩
  case rem => exact ⟨_, _, h.2, ⟨rfl, wf_tmod hx h.1⟩, by simp [Go.binOp, Op.intDiv, h.1]⟩
  case eql => exact ⟨_, _, h, rfl, by simp [Go.binOp, Op.intCmp]; rfl⟩
  case neq => exact ⟨_, _, h, rfl, by simp [Go.binOp, Op.intCmp]; rfl⟩
  case lss => exact ⟨_, _, h, rfl, by simp [Go.binOp, Op.intCmp]⟩
  case leq => exact ⟨_, _, h, rfl, by simp [Go.binOp, Op.intCmp]⟩
  case gtr => exact ⟨_, _, h, rfl, by simp [Go.binOp, Op.intCmp]⟩
  case geq => exact ⟨_, _, h, rfl, by simp [Go.binOp, Op.intCmp]⟩

theorem toList_mk (l : List UInt8) : (⟨l.toArray⟩ : ByteArray).toList = l := by
  rw [ByteArray.toList_eq]

theorem lbeq (x y : List UInt8) : (x == y) = decide (x = y) := by rw [Bool.eq_iff_iff]; simp

theorem binS_sound {op : BinOp} {x y : List UInt8} (hx : x.length ≤ maxLen) (hy : y.length ≤ maxLen) {t : TypeId} (h : (binS op x y).bnd k) :
    ∃ v z, k v ∧ VR w M G v z ∧ (Go.binOp op t (.string ⟨x.toArray⟩) (.string ⟨y.toArray⟩)).run P w = .ok z w := by
  cases op <;> simp only [binS, Rs.bnd] at h
  all_goals first | exact h.elim | skip
  case add =>
    refine ⟨_, _, h.2, ⟨rfl, by simpa using h.1⟩, ?_⟩
    have h1 := h.1
    have : ¬ ((((⟨x.toArray⟩ : ByteArray).size + (⟨y.toArray⟩ : ByteArray).size : Nat) : Int) > IntKind.i64.max) := by
      simp [ByteArray.size, IntKind.max, IntKind.signed, IntKind.bits]
      unfold maxLen at h1; omega
    simp only [Go.binOp, Op.stringOp, Sem.run_ite, if_neg this, Sem.run_pure]
    congr 2
  all_goals
    refine ⟨_, _, h, rfl, ?_⟩
    simp [Go.binOp, Op.stringOp, toList_mk, lbeq]
end
end Go.V

/-
  The value logic, part f: the other operations that yield a value; literals.
-/
namespace Go.V
open Go Go.RowKit
set_option linter.unusedVariables false
set_option linter.unusedSimpArgs false

section
variable {P : Program} {w : World} {M : Nat → Nat → Prop} {G : List Gh} {H : List Ent} {n : Nat} {af : AF} {a : Act} {k : AV → Prop}

theorem bnd_map {α β : Type} (f : α → β) (r : Rs α) (k : β → Prop) : (r.map f).bnd k ↔ r.bnd (fun x => k (f x)) := by
  induction r with
  | ret a => exact Iff.rfl
  | req p r ih => simp only [Rs.map, Rs.bnd, ih]
  | bad => exact Iff.rfl

theorem skT_under {t : TypeId} {s : Sk} (h : skT P t = some s) : P.underlying t = some (match s with | .int k => .int k | .str => .string | .bool => .bool) := by
  unfold skT at h
  split at h <;> simp at h <;> subst h <;> assumption

theorem aggT_sk {t : TypeId} {s : Sk} (h : skT P t = some s) : aggT P t = some false := by
  unfold aggT
  rw [skT_under h]
  cases s <;> rfl

theorem run_part_sk {t : TypeId} {s : Sk} {vs : List Value} {i : Nat} {x : Value} (h : skT P t = some s) (hx : vs[i]? = some x) : (part t vs.toArray i).run P w = .ok x w := by
  simp only [part, Sem.run_bind, run_isAgg (aggT_sk h), Result.andThen_ok, Bool.false_eq_true, if_false]
  simp [hx]

theorem eqc_sound {t : TypeId} {s : Sk} {c d : AV} {x y : Value} {dd : Nat} (hs : skT P t = some s) (hx : VR w M G c x) (hy : VR w M G d y) (hl : fitc s c = true) (hl' : fitc s d = true) :
    (Op.equalIn (dd + 1) t x y).run P w = .ok (eqc c d) w := by
  have hu := skT_under hs
  cases s <;> cases c <;> simp [fitc] at hl <;> cases d <;> simp [fitc] at hl' <;> simp only [VR] at hx hy
  · subst hl hl'
    obtain ⟨rfl, _⟩ := hx; obtain ⟨rfl, _⟩ := hy
    simp only [Op.equalIn, Sem.run_bind, run_underlying hu, Result.andThen_ok, if_true, Sem.run_pure, eqc]
    rfl
  · obtain ⟨rfl, _⟩ := hx; obtain ⟨rfl, _⟩ := hy
    simp only [Op.equalIn, Sem.run_bind, run_underlying hu, Result.andThen_ok, Sem.run_pure, eqc]
    rw [beq_toListBytes, toList_mk, toList_mk, lbeq]
  · subst hx hy
    simp only [Op.equalIn, Sem.run_bind, run_underlying hu, Result.andThen_ok, Sem.run_pure, eqc]

theorem eqFields_sound {dd : Nat} {cs es : List AV} {xs ys : List Value} (hx : VRs w M G cs xs) (hy : VRs w M G es ys) : ∀ (fs : List Field) (i : Nat) (ks : List Sk), rowT P fs i = some ks →
    fitcs ks (cs.drop i) = true → fitcs ks (es.drop i) = true → (Op.eqFields (dd + 1) xs.toArray ys.toArray fs).run P w = .ok (eqcs (cs.drop i) (es.drop i)) w
  | [], i, ks, h, h1, h2 => by
    simp [rowT] at h; subst h
    cases hc : cs.drop i <;> cases he : es.drop i <;> simp [hc, he, fitcs] at h1 h2
    simp [Op.eqFields, eqcs]
  | f :: fs, i, ks, h, h1, h2 => by
    simp only [rowT] at h
    split at h
    · rename_i hf
      simp at hf
      obtain ⟨hn, hoff⟩ := hf
      split at h
      · rename_i s l hs hl
        simp at h; subst h
        cases hc : cs.drop i with
        | nil => simp [hc, fitcs] at h1
        | cons c cr =>
          cases he : es.drop i with
          | nil => simp [he, fitcs] at h2
          | cons e er =>
            simp only [hc, he, fitcs, Bool.and_eq_true] at h1 h2
            have hci : cs[i]? = some c := by have := List.getElem?_drop (xs := cs) (i := i) (j := 0); rw [hc] at this; simpa using this.symm
            have hei : es[i]? = some e := by have := List.getElem?_drop (xs := es) (i := i) (j := 0); rw [he] at this; simpa using this.symm
            obtain ⟨x, hxi, hxv⟩ := VRs_get hx hci
            obtain ⟨y, hyi, hyv⟩ := VRs_get hy hei
            have hcr : cr = cs.drop (i + 1) := by rw [← List.tail_drop, hc]; rfl
            have her : er = es.drop (i + 1) := by rw [← List.tail_drop, he]; rfl
            have ih := eqFields_sound (dd := dd) hx hy fs (i + 1) l hl (by rw [← hcr]; exact h1.2) (by rw [← her]; exact h2.2)
            simp only [Op.eqFields, if_pos hn, Sem.run_bind, hoff, run_part_sk hs hxi, run_part_sk hs hyi, Result.andThen_ok, eqc_sound hs hxv hyv h1.1 h2.1, Sem.run_ite, eqcs]
            rw [ih, ← hcr, ← her]
            cases eqc c e <;> simp
      · cases h
    · cases h

theorem run_eqGuard_plain {op : BinOp} {t : TypeId} {x y : Operand} {u v : Value} (h : ∀ cs es, ¬ (u = .agg cs ∧ v = .agg es)) (h' : u = .nilIface ∧ v = .nilIface → (Region.isConst x || Region.isConst y) = true) : (eqGuard op t x y u v).run P w = .ok () w := by
  unfold eqGuard
  split
  all_goals first | rfl | skip
  all_goals
    simp only [Bool.not_true, Bool.false_eq_true, if_false]
    split
    · have hc := h' ⟨rfl, rfl⟩
      cases x <;> cases y <;> simp [Region.isConst] at hc <;> rfl
    · exact absurd ⟨rfl, rfl⟩ (h _ _)
    · rfl

theorem run_eqGuard_agg {op : BinOp} {t : TypeId} {x y : Operand} {cs es : Array Value} (h : P.eqGuardType P.depth t = false) : (eqGuard op t x y (.agg cs) (.agg es)).run P w = .ok () w := by
  unfold eqGuard
  split <;> first | rfl | simp [h]

theorem eqT_cases {t : TypeId} {e : Eqk} (h : eqT P t = e) : (e = .bool → P.underlying t = some .bool) ∧ (e = .ptr → ∃ u, P.underlying t = some (.pointer u)) ∧ (e = .iface → ∃ u, P.underlying t = some (.interface u)) ∧
    (e = .func → ∃ u v w, P.underlying t = some (.func u v w)) ∧ (∀ ks, e = .cells ks → ∃ fs, P.underlying t = some (.struct fs) ∧ P.stoodInHeld t = false ∧ P.eqGuardType P.depth t = false ∧ rowT P fs.toList 0 = some ks) := by
  unfold eqT at h
  split at h
  case h_1 hu => subst h; exact ⟨fun _ => hu, (by simp), (by simp), (by simp), (by simp)⟩
  case h_2 u hu => subst h; exact ⟨(by simp), fun _ => ⟨u, hu⟩, (by simp), (by simp), (by simp)⟩
  case h_3 u hu => subst h; exact ⟨(by simp), (by simp), (by simp), (by simp), (by simp)⟩
  case h_4 u hu => subst h; exact ⟨(by simp), (by simp), fun _ => ⟨u, hu⟩, (by simp), (by simp)⟩
  case h_5 u v w hu => subst h; exact ⟨(by simp), (by simp), (by simp), fun _ => ⟨u, v, w, hu⟩, (by simp)⟩
  case h_6 fs hu =>
    split at h
    · rename_i hc
      simp at hc
      split at h
      · rename_i ks hk
        subst h
        exact ⟨(by simp), (by simp), (by simp), (by simp), fun ks' hk' => by cases hk'; exact ⟨fs, hu, hc.1, hc.2, hk⟩⟩
      · subst h; exact ⟨(by simp), (by simp), (by simp), (by simp), (by simp)⟩
    · subst h; exact ⟨(by simp), (by simp), (by simp), (by simp), (by simp)⟩
  case h_7 => subst h; exact ⟨(by simp), (by simp), (by simp), (by simp), (by simp)⟩

theorem equal_of {t : TypeId} {x y : Value} {r : Result Bool} (h : ∀ dd, (Op.equalIn (dd + 1) t x y).run P w = r) : (Op.equal t x y).run P w = r := h 9999

/-- What '==' and '!=' come to, once the values are known to be equal or not. -/
def EqR (P : Program) (w : World) (t : TypeId) (x y : Value) (b : Bool) : Prop :=
  (Go.binOp .eql t x y).run P w = .ok (.bool b) w ∧ (Go.binOp .neq t x y).run P w = .ok (.bool (!b)) w
theorem eqR_of {t : TypeId} {x y : Value} {b : Bool} (h1 : Go.binOp .eql t x y = (do pure (.bool (← Op.equal t x y)))) (h2 : Go.binOp .neq t x y = (do pure (.bool (!(← Op.equal t x y)))))
    (h : (Op.equal t x y).run P w = .ok b w) : EqR P w t x y b := ⟨by rw [h1]; simp only [Sem.run_bind, h, Result.andThen_ok, Sem.run_pure], by rw [h2]; simp only [Sem.run_bind, h, Result.andThen_ok, Sem.run_pure]⟩

theorem eqv_sound {t : TypeId} {p q : AV} {x y : Value} {kb : Bool → Prop} (hx : VR w M G p x) (hy : VR w M G q y) (h : (eqv (eqT P t) p q).bnd kb) :
    ∃ b, kb b ∧ EqR P w t x y b ∧ ∀ op xo yo, ((eqT P t).isIface = true → (Region.isConst xo || Region.isConst yo) = true) → (eqGuard op t xo yo x y).run P w = .ok () w := by
  obtain ⟨c1, c2, c3, c4, c5⟩ := eqT_cases (P := P) (t := t) rfl
  unfold eqv at h
  split at h
  case h_1 he =>
    have hu := c1 he
    simp only [VR] at hx hy; subst hx hy
    exact ⟨_, h, eqR_of rfl rfl (equal_of fun dd => by simp only [Op.equalIn, Sem.run_bind, run_underlying hu, Result.andThen_ok, Sem.run_pure]), fun op xo yo _ => run_eqGuard_plain (by simp) (by simp)⟩
  case h_2 he =>
    obtain ⟨u, hu⟩ := c2 he
    simp only [VR] at hx hy; subst hx hy
    exact ⟨_, h, eqR_of rfl rfl (equal_of fun dd => by simp only [Op.equalIn, Sem.run_bind, run_underlying hu, Result.andThen_ok, Sem.run_pure]; rfl), fun op xo yo _ => run_eqGuard_plain (by simp) (by simp)⟩
  case h_3 he =>
    obtain ⟨u, hu⟩ := c2 he
    simp only [VR] at hx hy; subst hy; obtain ⟨g, hg, rfl⟩ := hx
    exact ⟨_, h, eqR_of rfl rfl (equal_of fun dd => by simp only [Op.equalIn, Sem.run_bind, run_underlying hu, Result.andThen_ok, Sem.run_pure]), fun op xo yo _ => run_eqGuard_plain (by simp) (by simp)⟩
  case h_4 he =>
    obtain ⟨u, hu⟩ := c2 he
    simp only [VR] at hx hy; subst hx; obtain ⟨g, hg, rfl⟩ := hy
    exact ⟨_, h, eqR_of rfl rfl (equal_of fun dd => by simp only [Op.equalIn, Sem.run_bind, run_underlying hu, Result.andThen_ok, Sem.run_pure]; rfl), fun op xo yo _ => run_eqGuard_plain (by simp) (by simp)⟩
  case h_5 he =>
    obtain ⟨u, hu⟩ := c3 he
    simp only [VR] at hx hy; subst hx hy
    exact ⟨_, h, eqR_of rfl rfl (equal_of fun dd => by simp only [Op.equalIn, Sem.run_bind, run_underlying hu, Result.andThen_ok, Sem.run_pure]), fun op xo yo hn => run_eqGuard_plain (by simp) (fun _ => hn (by rw [he]; rfl))⟩
  case h_6 he =>
    obtain ⟨u, hu⟩ := c3 he
    simp only [VR] at hx hy; subst hy; obtain ⟨z, hz, rfl⟩ := hx
    exact ⟨_, h, eqR_of rfl rfl (equal_of fun dd => by simp only [Op.equalIn, Sem.run_bind, run_underlying hu, Result.andThen_ok, Sem.run_pure]), fun op xo yo _ => run_eqGuard_plain (by simp) (by simp)⟩
  case h_7 he =>
    obtain ⟨u, v, w', hu⟩ := c4 he
    simp only [VR] at hx hy; subst hx hy
    exact ⟨_, h, eqR_of rfl rfl (equal_of fun dd => by simp only [Op.equalIn, Sem.run_bind, run_underlying hu, Result.andThen_ok, Sem.run_pure]), fun op xo yo _ => run_eqGuard_plain (by simp) (by simp)⟩
  case h_8 he =>
    obtain ⟨u, v, w', hu⟩ := c4 he
    simp only [VR] at hx hy; subst hy; obtain ⟨xs, ys, h1, h2, rfl⟩ := hx
    exact ⟨_, h, eqR_of rfl rfl (equal_of fun dd => by simp only [Op.equalIn, Sem.run_bind, run_underlying hu, Result.andThen_ok, Sem.run_pure]), fun op xo yo _ => run_eqGuard_plain (by simp) (by simp)⟩
  case h_9 ks cs es he =>
    obtain ⟨fs, hu, hs, hg, hk⟩ := c5 ks he
    simp only [Rs.bnd] at h
    obtain ⟨⟨h1, h2⟩, h⟩ := h
    obtain ⟨xs, rfl, hx⟩ := hx
    obtain ⟨ys, rfl, hy⟩ := hy
    have hu' : P.underlying t = some (.struct (P.fieldsOf t)) := by rw [Program.fieldsOf, hu]
    refine ⟨_, h, eqR_of rfl rfl ?_, fun op xo yo _ => run_eqGuard_agg hg⟩
    have hd : Op.equal t (.agg xs.toArray) (.agg ys.toArray) = Op.equalIn (9999 + 1) t (.agg xs.toArray) (.agg ys.toArray) := rfl
    rw [hd, run_equalIn_struct w 9999 t _ _ hu' hs]
    have : P.fieldsOf t = fs := by rw [Program.fieldsOf, hu]
    rw [this]
    exact eqFields_sound (dd := 9998) hx hy fs.toList 0 ks hk (by simpa using h1) (by simpa using h2)
  case h_10 => simp only [Rs.bnd] at h

theorem yd_bin {o : Oper} {op : BinOp} {t yt : TypeId} {x y : Operand} {x' y' : Opd} (ho : o.op = .binOp op t x y yt) (hx : cO x = some x') (hy : cO y = some y') (hif : (eqT P t).isIface = true → (Region.isConst x || Region.isConst y) = true)
    (hr : RelF w M G n af a) (h : (evv af H (.bin op (eqT P t) x' y')).bnd k) : Yd P w M G a o k := by
  have hvx := cO_sound hx hr
  have hvy := cO_sound hy hr
  refine Yd.of (s := do eqGuard op t x y (a.eval x) (a.eval y); Go.binOp op t (a.eval x) (a.eval y)) (by simp only [execOp, ho]) ?_
  simp only [evv] at h
  generalize gt af x' = p at *
  generalize gt af y' = q at *
  generalize a.eval x = u at *
  generalize a.eval y = v at *
  unfold binv at h
  split at h
  · rename_i k1 z1 k2 z2
    by_cases hk : k1 = k2
    · rw [if_pos hk] at h
      subst hk
      simp only [VR] at hvx hvy
      obtain ⟨rfl, hw1⟩ := hvx
      obtain ⟨rfl, hw2⟩ := hvy
      have hop : op ≠ .shl ∧ op ≠ .shr := by cases op <;> simp [binI, Rs.bnd] at h ⊢
      obtain ⟨v', z, h1, h2, h3⟩ := binI_sound (P := P) hw1 hw2 hop (t := t) h
      refine ⟨v', z, h1, h2, ?_⟩
      simp only [Sem.run_bind, run_eqGuard_plain (u := .int k1 z1) (v := .int k1 z2) (by simp) (by simp), Result.andThen_ok, h3]
    · rw [if_neg hk] at h; simp only [Rs.bnd] at h
  · rename_i l1 l2
    simp only [VR] at hvx hvy
    obtain ⟨rfl, hw1⟩ := hvx
    obtain ⟨rfl, hw2⟩ := hvy
    obtain ⟨v', z, h1, h2, h3⟩ := binS_sound (P := P) hw1 hw2 (t := t) h
    refine ⟨v', z, h1, h2, ?_⟩
    simp only [Sem.run_bind, run_eqGuard_plain (u := .string ⟨l1.toArray⟩) (v := .string ⟨l2.toArray⟩) (by simp) (by simp), Result.andThen_ok, h3]
  · cases op <;> simp only [eqb, Rs.bnd] at h
    · rw [bnd_map] at h
      obtain ⟨b, h1, h2, h3⟩ := eqv_sound hvx hvy h
      exact ⟨_, _, h1, rfl, by simp only [Sem.run_bind, h3 _ _ _ hif, Result.andThen_ok, h2.1]⟩
    · rw [bnd_map] at h
      obtain ⟨b, h1, h2, h3⟩ := eqv_sound hvx hvy h
      exact ⟨_, _, h1, rfl, by simp only [Sem.run_bind, h3 _ _ _ hif, Result.andThen_ok, h2.2]⟩
end
end Go.V

/-
  The value logic, part g: literals, and the rest of the operations that yield a value.
-/
namespace Go.V
open Go Go.RowKit
set_option linter.unusedVariables false
set_option linter.unusedSimpArgs false

section
variable {P : Program} {w : World} {M : Nat → Nat → Prop} {G : List Gh} {H : List Ent} {n : Nat} {af : AF} {a : Act} {k : AV → Prop}

theorem yd_un {o : Oper} {op : UnOp} {t : TypeId} {x : Operand} {y : Opd} (ho : o.op = .unOp op t x) (hy : cO x = some y) (hr : RelF w M G n af a) (h : (evv af H (.un op y)).bnd k) : Yd P w M G a o k := by
  have hv := cO_sound hy hr
  refine Yd.of (s := Op.unary op (a.eval x)) (by simp only [execOp, ho]) ?_
  simp only [evv] at h
  cases hg : gt af y <;> simp only [hg, unv, Rs.bnd] at h <;> rw [hg] at hv <;> simp only [VR] at hv
  · cases op <;> simp only [Rs.bnd] at h
    exact ⟨_, _, h, rfl, by rw [hv]; simp [Op.unary]⟩
  · obtain ⟨hv, hw⟩ := hv
    cases op <;> simp only [Rs.bnd] at h
    exact ⟨_, _, h, ⟨rfl, wf_wrap _ _⟩, by rw [hv]; simp [Op.unary, Op.intArith]⟩

theorem yd_ext {o : Oper} {x : Operand} {y : Opd} {i : Nat} (ho : o.op = .extract x i) (hy : cO x = some y) (hr : RelF w M G n af a) (h : (evv af H (.ext y i)).bnd k) : Yd P w M G a o k := by
  have hv := cO_sound hy hr
  refine Yd.of (s := Instr.extract (a.eval x) i) (by simp only [execOp, ho]) ?_
  simp only [evv] at h
  cases hg : gt af y <;> simp only [hg, extv, Rs.bnd] at h
  rw [hg] at hv
  obtain ⟨vs, he, hvs⟩ := hv
  obtain ⟨z, h1, h2⟩ := VRs_getD hvs h.1
  refine ⟨_, z, h.2, h2, ?_⟩
  simp [Instr.extract, he, h1]

theorem yd_nck {o : Oper} {x : Operand} {y : Opd} (ho : o.op = .nilCheck x) (hy : cO x = some y) (hr : RelF w M G n af a) (h : (evv af H (.nck y)).bnd k) : Yd P w M G a o k := by
  have hv := cO_sound hy hr
  simp only [evv] at h
  cases hg : gt af y <;> simp only [hg, nckv, Rs.bnd] at h <;> rw [hg] at hv
  · obtain ⟨g, h1, h2⟩ := hv
    exact ⟨_, _, h, ⟨g, h1, rfl⟩, by simp [execOp, ho, h2]⟩
  · obtain ⟨ad, cap, us, h1, h2, h3, h4⟩ := hv
    exact ⟨_, _, h, ⟨ad, cap, us, h1, h2, h3, rfl⟩, by simp [execOp, ho, h4]⟩
  · obtain ⟨g, h1, h2⟩ := hv
    exact ⟨_, _, h, ⟨g, h1, rfl⟩, by simp [execOp, ho, h2]⟩
  · obtain ⟨xs, ys, h1, h2, h3⟩ := hv
    exact ⟨_, _, h, ⟨xs, ys, h1, h2, rfl⟩, by simp [execOp, ho, h3]⟩

theorem yd_cvi {o : Oper} {s d : TypeId} {kk kk' : IntKind} {x : Operand} {y : Opd} (ho : o.op = .convert s d x) (hs : P.underlying s = some (.int kk')) (hd : P.underlying d = some (.int kk)) (hy : cO x = some y) (hr : RelF w M G n af a)
    (h : (evv af H (.cvi kk y)).bnd k) : Yd P w M G a o k := by
  have hv := cO_sound hy hr
  refine Yd.of (s := convert s d (a.eval x)) (by simp only [execOp, ho]) ?_
  simp only [evv] at h
  cases hg : gt af y <;> simp only [hg, cviv, Rs.bnd] at h
  rw [hg] at hv
  exact ⟨_, _, h, ⟨rfl, wf_wrap _ _⟩, by rw [hv.1]; simp [convert, run_underlying hs, run_underlying hd, Conv.intToInt]⟩

theorem yd_cvs {o : Oper} {s d : TypeId} {x : Operand} {y : Opd} (ho : o.op = .convert s d x) (hs : P.underlying s = some .string) (hd : P.underlying d = some .string) (hy : cO x = some y) (hr : RelF w M G n af a)
    (h : (evv af H (.cvs y)).bnd k) : Yd P w M G a o k := by
  have hv := cO_sound hy hr
  refine Yd.of (s := convert s d (a.eval x)) (by simp only [execOp, ho]) ?_
  simp only [evv] at h
  cases hg : gt af y <;> simp only [hg, cvsv, Rs.bnd] at h
  rw [hg] at hv
  exact ⟨_, _, h, ⟨rfl, hv.2⟩, by rw [hv.1]; simp [convert, run_underlying hs, run_underlying hd]⟩

theorem yd_mki {o : Oper} {t : TypeId} {d : TypeDesc} {x : Operand} {y : Opd} {c : Co} (ho : o.op = .makeInterface t x) (hu : P.underlying t = some d) (hd : ∀ ms, d ≠ .interface ms) (hy : cO x = some y) (hst : St w M G H) (hr : RelF w M G n af a)
    (h : (evv af H (.mki t y c)).bnd k) : Yd P w M G a o k := by
  have hv := cO_sound hy hr
  refine Yd.of (s := Instr.makeInterface t (a.eval x)) (by simp only [execOp, ho]) ?_
  simp only [evv, Rs.bnd] at h
  refine ⟨_, _, h, ⟨a.eval x, co_sound hst c _ _ hv, rfl⟩, ?_⟩
  simp only [Instr.makeInterface, Sem.run_bind, run_underlying hu, Result.andThen_ok]
  cases d <;> first | rfl | exact absurd rfl (hd _)

theorem run_zeroValue {t : TypeId} {z : Value} (h : (P.info? t).bind (·.zero) = some z) : (zeroValue t).run P w = .ok z w := by
  cases hi : P.info? t with
  | none => simp [hi] at h
  | some i => simp [hi] at h; simp [zeroValue, typeInfo, hi, h]
theorem zeroT_sound {t : TypeId} {z : AV} (h : zeroT P t = some z) : ∃ v, (zeroValue t).run P w = .ok v w ∧ VR w M G z v ∧ z.flat := by
  unfold zeroT at h
  split at h
  · rename_i v hv
    exact ⟨v, run_zeroValue hv, ofW_sound h⟩
  · cases h

theorem yd_tya {o : Oper} {t st : TypeId} {d : TypeDesc} {x : Operand} {y : Opd} {z : AV} (ho : o.op = .typeAssert x st t true) (hu : P.underlying t = some d) (hd : ∀ ms, d ≠ .interface ms) (hz : zeroT P t = some z) (hy : cO x = some y) (hr : RelF w M G n af a)
    (h : (evv af H (.tya t z y)).bnd k) : Yd P w M G a o k := by
  have hv := cO_sound hy hr
  obtain ⟨zv, hz1, hz2, _⟩ := zeroT_sound (w := w) (M := M) (G := G) hz
  refine Yd.of (s := Instr.typeAssert (a.eval x) st t true) (by simp only [execOp, ho]) ?_
  simp only [evv] at h
  cases hg : gt af y <;> simp only [hg, tyav, Rs.bnd] at h <;> rw [hg] at hv
  · simp only [VR] at hv
    refine ⟨_, .tuple #[zv, .bool false], h, ⟨[zv, .bool false], rfl, zv, _, rfl, hz2, _, _, rfl, rfl, rfl⟩, ?_⟩
    simp only [Instr.typeAssert, Sem.run_bind, run_underlying hu, Result.andThen_ok, hv]
    cases d <;> first | exact absurd rfl (hd _) | simp [hz1]
  · rename_i t' v
    obtain ⟨yv, h1, h2⟩ := hv
    by_cases htt : t' = t
    · rw [if_pos htt] at h
      simp only [Rs.bnd] at h
      refine ⟨_, .tuple #[yv, .bool true], h, ⟨[yv, .bool true], rfl, yv, _, rfl, h1, _, _, rfl, rfl, rfl⟩, ?_⟩
      simp only [Instr.typeAssert, Sem.run_bind, run_underlying hu, Result.andThen_ok, h2]
      cases d <;> first | exact absurd rfl (hd _) | simp [htt]
    · rw [if_neg htt] at h
      simp only [Rs.bnd] at h
      refine ⟨_, .tuple #[zv, .bool false], h, ⟨[zv, .bool false], rfl, zv, _, rfl, hz2, _, _, rfl, rfl, rfl⟩, ?_⟩
      simp only [Instr.typeAssert, Sem.run_bind, run_underlying hu, Result.andThen_ok, h2]
      cases d <;> first | exact absurd rfl (hd _) | simp [htt, hz1]

/-! ### Literals -/

theorem take_mid {α : Type} (A B : List α) (c : α) {p : Nat} (h : A.length = p) : (A ++ c :: B).take (p + 1) = A ++ [c] ∧ ∀ q, (A ++ c :: B).drop (p + 1 + q) = B.drop q := by
  subst h
  constructor
  · rw [List.take_append, List.take_of_length_le (by omega), show A.length + 1 - A.length = 1 by omega]; rfl
  · intro q
    rw [List.drop_append, List.drop_of_length_le (by omega), show A.length + 1 + q - A.length = q + 1 by omega]; rfl

theorem fold_set (l : List Value) (off : Nat) : ∀ (j : Nat) (cells : Array Value), off + j + l.length ≤ cells.size →
    ((l.zipIdx j).foldl (fun cs (c, j) => cs.setIfInBounds (off + j) c) cells).toList = cells.toList.take (off + j) ++ (l ++ cells.toList.drop (off + j + l.length)) := by
  induction l with
  | nil => intro j cells h; simp
  | cons c l ih =>
    intro j cells h
    simp only [List.zipIdx_cons, List.foldl_cons]
    rw [ih (j + 1) _ (by simp at h ⊢; omega)]
    simp only [List.length_cons] at h
    simp only [Array.toList_setIfInBounds, List.length_cons]
    have h1 : off + j < cells.toList.length := by simp; omega
    have hs : cells.toList.set (off + j) c = cells.toList.take (off + j) ++ c :: cells.toList.drop (off + j + 1) := by rw [List.set_eq_take_append_cons_drop, if_pos h1]
    have hA : (cells.toList.take (off + j)).length = off + j := by rw [List.length_take]; omega
    rw [hs, show off + (j + 1) = off + j + 1 by omega, (take_mid _ _ _ hA).1, (take_mid _ _ _ hA).2 l.length, List.drop_drop]
    simp only [List.append_assoc, List.nil_append, List.cons_append]
    rw [show off + j + 1 + l.length = off + j + (l.length + 1) by omega]

theorem fill_step {place : Nat → Option (Nat × Nat)} {i off m : Nat} {v : Value} {rest : List (Nat × Value)} {cells : Array Value} (hp : place i = some (off, m)) (hv : v.cells.size = m) (ho : off + m ≤ cells.size) :
    ∃ c' : Array Value, Instr.fill place cells ((i, v) :: rest) = Instr.fill place c' rest ∧ c'.toList = cells.toList.take off ++ (v.cells.toList ++ cells.toList.drop (off + m)) := by
  refine ⟨v.cells.zipIdx.foldl (fun cs (c, j) => cs.setIfInBounds (off + j) c) cells, ?_, ?_⟩
  · rw [Instr.fill, hp]
    have : ¬ ((v.cells.size ≠ m || decide (off + v.cells.size > cells.size)) = true) := by simp [hv]; omega
    simp only [this, if_false, Bool.false_eq_true]
  · have := fold_set v.cells.toList off 0 cells (by simp [hv]; omega)
    rw [← Array.foldl_toList, Array.toList_zipIdx]
    simpa [hv] using this

theorem bldv_sound {places : Nat → Option (Nat × Nat)} {place : Nat → Option (Nat × Nat)} (hpl : ∀ i x, places i = some x → place i = some x) : ∀ (parts : List (Nat × Operand)) (l : List (Nat × Nat × Opd)) (zs : List AV) (cells : Array Value),
    cParts P places parts = some l → RelF w M G n af a → VRs w M G zs cells.toList → (bldv af l zs).bnd k →
    ∃ c' v, Instr.fill place cells (parts.map fun (i, x) => (i, a.eval x)) = some c' ∧ k v ∧ VR w M G v (.agg c')
  | [], l, zs, cells, hc, hr, hz, h => by
    simp [cParts] at hc; subst hc
    simp only [bldv, Rs.bnd] at h
    exact ⟨cells, _, rfl, h, cells.toList, by simp, hz⟩
  | (i, x) :: r, l, zs, cells, hc, hr, hz, h => by
    simp only [cParts] at hc
    split at hc
    · rename_i off m b l' h1 h2 h3
      simp at hc; subst hc
      simp only [bldv, Rs.bnd] at h
      obtain ⟨⟨h4, h5, h6⟩, h⟩ := h
      have hv := VR_cells (cO_sound h2 hr) h6
      have hvl := VRs_length hv
      have hzl := VRs_length hz
      have hvs : (a.eval x).cells.size = m := by simpa [h4] using hvl
      have hzl' : cells.size = zs.length := by simpa using hzl
      obtain ⟨c', e1, e2⟩ := fill_step (rest := r.map fun (i, x) => (i, a.eval x)) (hpl i _ h1) hvs (by rw [hzl']; exact h5)
      have hz' : VRs w M G (spl off (gt af b).cells zs) c'.toList := by
        rw [e2, spl, h4]
        exact VRs_append (VRs_take hz off) (VRs_append hv (VRs_drop hz _))
      obtain ⟨c'', v, e3, e4, e5⟩ := bldv_sound hpl r l' _ c' h3 hr hz' h
      exact ⟨c'', v, by simp only [List.map_cons]; rw [e1]; exact e3, e4, e5⟩
    · cases hc

theorem run_mapM_sizes (fs : List Field) (hs : ∀ f ∈ fs, ∃ m, sizeT P f.type = some m) : ∃ l : List (Nat × Nat), (fs.mapM (fun f => do pure (f.offset, ← sizeOf f.type) : Field → Sem (Nat × Nat))).run P w = .ok l w ∧ ∀ (i : Nat) (f : Field) (m : Nat), fs[i]? = some f → sizeT P f.type = some m → l[i]? = some (f.offset, m) := by
  induction fs with
  | nil => exact ⟨[], by simp, by simp⟩
  | cons f fs ih =>
    obtain ⟨m, hm⟩ := hs f (by simp)
    obtain ⟨l, h1, h2⟩ := ih (fun g hg => hs g (by simp [hg]))
    refine ⟨(f.offset, m) :: l, ?_, ?_⟩
    · simp only [List.mapM_cons, Sem.run_bind, run_sizeOf hm, Result.andThen_ok, Sem.run_pure, h1]
    · intro i g m' hi hg
      cases i with
      | zero => simp at hi; subst hi; rw [hm] at hg; cases hg; simp
      | succ i => simp at hi; simpa using h2 i g m' hi hg

theorem yd_bld {o : Oper} {t : TypeId} {parts : Array (Nat × Operand)} {zs : List AV} {l : List (Nat × Nat × Opd)} (ho : o.op = .build t parts) (hz : zeroT P t = some (.agg zs)) (hl : cParts P (placesT P t) parts.toList = some l)
    (hsz : sizesOK P t = true) (hr : RelF w M G n af a) (h : (evv af H (.bld zs l)).bnd k) : Yd P w M G a o k := by
  obtain ⟨zv, hz1, hz2, _⟩ := zeroT_sound (w := w) (M := M) (G := G) hz
  obtain ⟨vs, rfl, hzv⟩ := hz2
  refine Yd.of (s := Instr.build t (parts.map fun (i, x) => (i, a.eval x))) (by simp only [execOp, ho]) ?_
  simp only [evv] at h
  have hpt : (parts.map fun (i, x) => (i, a.eval x)).toList = parts.toList.map fun (i, x) => (i, a.eval x) := by simp
  unfold sizesOK at hsz
  cases hu : P.underlying t with
  | none => simp [hu] at hsz
  | some d =>
    cases d <;> simp only [hu, Bool.false_eq_true] at hsz
    case struct fs =>
      obtain ⟨sl, hs1, hs2⟩ := run_mapM_sizes (P := P) (w := w) fs.toList (fun f hf => Option.isSome_iff_exists.1 (List.all_eq_true.1 hsz f hf))
      obtain ⟨c', v, e1, e2, e3⟩ := bldv_sound (places := placesT P t) (place := (sl.toArray[·]?)) (fun i x hx => by
        simp only [placesT, hu] at hx
        split at hx
        · rename_i f hf
          simp at hx
          obtain ⟨m, hm, rfl⟩ := hx
          simpa using hs2 i f m (by simpa using hf) hm
        · cases hx) parts.toList l zs vs.toArray hl hr (by simpa using hzv) h
      refine ⟨v, _, e2, e3, ?_⟩
      have hmap : (fs.mapM (fun f => do pure (f.offset, ← sizeOf f.type) : Field → Sem (Nat × Nat))).run P w = .ok sl.toArray w := by
        rw [Array.mapM_eq_mapM_toList, Sem.run_map, hs1]
        rfl
      simp only [Instr.build, Sem.run_bind, hz1, Result.andThen_ok, run_underlying hu, hmap, Value.cells, hpt, e1, Sem.run_pure]
    case array len e =>
      obtain ⟨m, hm⟩ := Option.isSome_iff_exists.1 hsz
      obtain ⟨c', v, e1, e2, e3⟩ := bldv_sound (places := placesT P t) (place := fun i => some (i * m, m)) (fun i x hx => by
        simp only [placesT, hu, hm] at hx
        simpa using hx) parts.toList l zs vs.toArray hl hr (by simpa using hzv) h
      refine ⟨v, _, e2, e3, ?_⟩
      simp only [Instr.build, Sem.run_bind, hz1, Result.andThen_ok, run_underlying hu, run_sizeOf hm, Value.cells, hpt, e1, Sem.run_pure]
end
end Go.V

/-
  The value logic, part h: the operations that make or write memory.
-/
namespace Go.V
open Go Go.RowKit
set_option linter.unusedVariables false
set_option linter.unusedSimpArgs false

section
variable {P : Program} {w : World} {M : Nat → Nat → Prop} {G : List Gh} {H : List Ent} {n : Nat} {af : AF} {a : Act} {k : AV → List Ent → Prop}

theorem heap_alloc_new (w : World) (o : Obj) : (w.alloc o).heap[w.heap.size]? = some o := by
  show (w.heap.push o)[w.heap.size]? = _
  rw [Array.getElem?_push, if_pos rfl]

/-- The operation goes through: what it yields, what is there behind it. -/
def Do (P : Program) (w : World) (M : Nat → Nat → Prop) (G : List Gh) (a : Act) (o : Oper) (k : AV → List Ent → Prop) : Prop :=
  ∃ v H' x w' M' G', k v H' ∧ Ext w M G w' M' G' ∧ St w' M' G' H' ∧ VR w' M' G' v x ∧ ((execOp a.eval o).run P w = .ok (.value x) w' ∨ ((execOp a.eval o).run P w = .ok .skip w' ∧ x = undef))

theorem Do.of {o : Oper} {s : Sem Value} (he : execOp a.eval o = (do pure (.value (← s))))
    (h : ∃ v H' x w' M' G', k v H' ∧ Ext w M G w' M' G' ∧ St w' M' G' H' ∧ VR w' M' G' v x ∧ s.run P w = .ok x w') : Do P w M G a o k := by
  obtain ⟨v, H', x, w', M', G', h1, h2, h3, h4, h5⟩ := h
  exact ⟨v, H', x, w', M', G', h1, h2, h3, h4, .inl (by rw [he]; simp only [Sem.run_bind, h5, Result.andThen_ok, Sem.run_pure])⟩

theorem Do.of_yd {o : Oper} {k' : AV → Prop} (hst : St w M G H) (h : Yd P w M G a o k') (hk : ∀ v, k' v → k v H) : Do P w M G a o k := by
  obtain ⟨v, x, h1, h2, h3⟩ := h
  exact ⟨v, H, x, w, M, G, hk v h1, Ext.refl _ _ _, hst, h2, .inl h3⟩

/-- A new block of the activation's own. -/
theorem push_blk (hst : St w M G H) {cs : List AV} {vs : List Value} {t : TypeId} (hv : VRs w M G cs vs) :
    ∃ g : Gh, g.blk = w.heap.size ∧ St (w.alloc (.cells vs.toArray t)) M (G ++ [g]) (H ++ [.blk cs]) ∧ Ext w M G (w.alloc (.cells vs.toArray t)) M (G ++ [g]) := by
  refine ⟨{ blk := w.heap.size, fp := fun b => b = w.heap.size }, rfl, ?_, ?_⟩
  · refine St_push hst (by simp) (fun b hb => Below.heap_alloc _ _ _ hb) (fun _ _ h => h) (fun _ _ h => .inl h) (fun b o h => by have := hst.Mlt b o h; simp; omega) (fun b hb => by subst hb; simp) ?_
    refine ⟨fun b => Iff.rfl, ⟨vs, t, heap_alloc_new _ _, ?_⟩, fun o hm => by have := hst.Mlt _ o hm; simp at this⟩
    exact VRs_mono (core_snoc G _) (fun b o hm => ⟨hm, World.cell?_of_block (w := w) (Below.heap_alloc _ _ _ (hst.Mlt b o hm))⟩) hv
  · exact Ext_push hst rfl rfl rfl (by simp) (fun b hb => Below.heap_alloc _ _ _ hb) (fun _ _ h => h) (fun _ _ h => .inl h) (fun b hb => by subst hb; exact Nat.le_refl _)

theorem run_newVar {t : TypeId} {v : Value} : (newVar t v).run P w = .ok ⟨w.heap.size, 0, none⟩ (w.alloc (.cells v.cells t)) := by
  simp [newVar, newRow]

theorem do_box {o : Oper} {t : TypeId} {x : Operand} {y : Opd} (ho : o.op = .box t x) (hy : cO x = some y) (hst : St w M G H) (hr : RelF w M G n af a) (h : (evi af H (.box y)).bnd fun p => k p.1 p.2) : Do P w M G a o k := by
  refine Do.of (s := Instr.box t (a.eval x)) (by simp only [execOp, ho]) ?_
  simp only [evi, boxv, Rs.bnd] at h
  obtain ⟨h1, h⟩ := h
  have hv := VR_cells (cO_sound hy hr) (by rcases h1 with h1 | h1 <;> simp [h1])
  obtain ⟨g, hg, h2, h3⟩ := push_blk (t := t) hst hv
  rw [Array.toArray_toList] at h2 h3
  refine ⟨_, _, .pointer (some ⟨w.heap.size, 0, none⟩), _, _, _, h, h3, h2, ⟨g, ?_, by rw [hg]⟩, ?_⟩
  · rw [← hst.len, getElem?_snoc]; simp
  · simp only [Instr.box, Sem.run_bind, run_newVar, Result.andThen_ok, Sem.run_pure]

theorem do_alo {o : Oper} {t : TypeId} {z : AV} (ho : o.op = .alloc t) (hz : zeroT P t = some z) (hst : St w M G H) (h : (evi af H (.alo z.cells)).bnd fun p => k p.1 p.2) : Do P w M G a o k := by
  refine Do.of (s := Instr.alloc t true (.tuple #[])) (by simp only [execOp, ho]) ?_
  simp only [evi, Rs.bnd] at h
  obtain ⟨zv, hz1, hz2, hz3⟩ := zeroT_sound (w := w) (M := M) (G := G) hz
  have hv := VR_cells hz2 (by rcases hz3 with h1 | h1 <;> simp [h1])
  obtain ⟨g, hg, h2, h3⟩ := push_blk (t := t) hst hv
  rw [Array.toArray_toList] at h2 h3
  refine ⟨_, _, .pointer (some ⟨w.heap.size, 0, none⟩), _, _, _, h, h3, h2, ⟨g, ?_, by rw [hg]⟩, ?_⟩
  · rw [← hst.len, getElem?_snoc]; simp
  · simp only [Instr.alloc, Sem.run_bind, hz1, run_newVar, Result.andThen_ok, Sem.run_pure]

/-! ### Stores -/

theorem setCell_heap (w : World) (b o : Nat) (v : Value) {vs : List Value} {t : TypeId} {fz : Nat × Nat} (h : w.heap[b]? = some (.cells vs.toArray t fz)) : (w.setCell ⟨b, o, none⟩ v).heap[b]? = some (.cells (vs.set o v).toArray t fz) := by
  simp [World.setCell, Array.getElem?_modify, h]

theorem run_storeCells {b o : Nat} {t : TypeId} : ∀ (us : List Value) (i : Nat) (w : World) (vs : List Value), w.heap[b]? = some (.cells vs.toArray t (0, 0)) → o + i + us.length ≤ vs.length → (∀ u ∈ us, u.oneCell' = true) →
    ∃ w', (storeCells ⟨b, o, none⟩ us i).run P w = .ok () w' ∧ w'.heap[b]? = some (.cells (vs.take (o + i) ++ (us ++ vs.drop (o + i + us.length))).toArray t (0, 0)) ∧ w'.os = w.os ∧ w'.tape = w.tape ∧ w'.output = w.output ∧ w'.heap.size = w.heap.size ∧
      ∀ c, c ≠ b → w'.heap[c]? = w.heap[c]?
  | [], i, w, vs, h, hl, h1 => ⟨w, by simp [storeCells], by simpa using h, rfl, rfl, rfl, rfl, fun _ _ => rfl⟩
  | u :: us, i, w, vs, h, hl, h1 => by
    simp only [List.length_cons] at hl
    have hlt : o + i < vs.length := by omega
    have hc : w.cell? ⟨b, o + i, none⟩ = some vs[o + i] := by rw [cell_of_heap h]; simp [hlt]
    have hf : w.frozen? ⟨b, o + i, none⟩ = false := by simp [World.frozen?, h]
    have hs := setCell_heap w b (o + i) u h
    obtain ⟨w', e1, e2, e3, e4, e5, e6, e7⟩ := run_storeCells (b := b) (o := o) (t := t) us (i + 1) _ _ hs (by simp; omega) (fun v hv => h1 v (by simp [hv]))
    refine ⟨w', ?_, ?_, e3, e4, e5, by rw [e6]; simp, fun c hcb => by rw [e7 c hcb]; exact Below.heap_setCell _ _ _ _ hcb⟩
    · simp only [storeCells, Sem.run_bind, addr_add, run_store P w _ u .plain (h1 u (by simp)), hc, hf, Bool.false_eq_true, if_false, Result.andThen_ok]
      exact e1
    · rw [e2]
      congr 3
      have hset : vs.set (o + i) u = vs.take (o + i) ++ u :: vs.drop (o + i + 1) := by rw [List.set_eq_take_append_cons_drop, if_pos hlt]
      have hA : (vs.take (o + i)).length = o + i := by rw [List.length_take]; omega
      rw [hset, show o + (i + 1) = o + i + 1 by omega, (take_mid _ _ _ hA).1, (take_mid _ _ _ hA).2 us.length, List.drop_drop]
      simp only [List.append_assoc, List.nil_append, List.cons_append, List.length_cons]
      rw [show o + i + 1 + us.length = o + i + (us.length + 1) by omega]

theorem run_storeVar {t tt : TypeId} {b o m : Nat} {v : Value} {vs : List Value} (hm : sizeT P t = some m) (hv : v.cells.size = m) (h : w.heap[b]? = some (.cells vs.toArray tt (0, 0))) (ho : o + m ≤ vs.length) (h1 : ∀ u ∈ v.cells.toList, u.oneCell' = true) :
    ∃ w', (storeVar t ⟨b, o, none⟩ v).run P w = .ok () w' ∧ w'.heap[b]? = some (.cells (vs.take o ++ (v.cells.toList ++ vs.drop (o + m))).toArray tt (0, 0)) ∧ w'.os = w.os ∧ w'.tape = w.tape ∧ w'.output = w.output ∧ w'.heap.size = w.heap.size ∧
      ∀ c, c ≠ b → w'.heap[c]? = w.heap[c]? := by
  have hl : v.cells.toList.length = m := by simpa using hv
  obtain ⟨w', e1, e2, e3⟩ := run_storeCells (P := P) (b := b) (o := o) (t := tt) v.cells.toList 0 w vs h (by omega) h1
  refine ⟨w', ?_, by simpa [hv] using e2, e3⟩
  simp only [storeVar, Sem.run_bind, run_sizeOf hm, Result.andThen_ok, Sem.run_ite, hv, ne_eq, not_true_eq_false, if_false, e1]

theorem stc_sound {m off : Nat} {v : AV} {x : Value} {cs : List AV} {vs : List Value} {kk : List AV → Prop} (hm : 0 < m) (hx : VR w M G v x) (hv : VRs w M G cs vs) (h : (stc m off v cs).bnd kk) :
    ∃ cs', kk cs' ∧ x.cells.size = m ∧ off + m ≤ vs.length ∧ (∀ u ∈ x.cells.toList, u.oneCell' = true) ∧ VRs w M G cs' (vs.take off ++ (x.cells.toList ++ vs.drop (off + m))) ∧ cs'.length = cs.length := by
  have hl := VRs_length hv
  unfold stc at h
  by_cases h1 : m = 1
  · rw [if_pos h1] at h
    simp only [Rs.bnd] at h
    obtain ⟨⟨h2, h3⟩, h⟩ := h
    obtain ⟨h4, h5⟩ := VR_leaf hx h3
    subst h1
    refine ⟨_, h, by simp [h5], by omega, by simp [h5, h4], ?_, by simp⟩
    rw [h5]
    have : vs.take off ++ ([x] ++ vs.drop (off + 1)) = vs.set off x := by rw [List.set_eq_take_append_cons_drop, if_pos (by omega)]; rfl
    simp only [List.toList_toArray]
    rw [this]
    exact VRs_set hv hx off
  · rw [if_neg h1] at h
    simp only [Rs.bnd] at h
    obtain ⟨⟨h2, h3, h4, h5⟩, h⟩ := h
    have hc := VR_cells hx (.inl h2)
    have hcl := VRs_length hc
    refine ⟨_, h, by simpa [h3] using hcl, by omega, VRs_one hc h5, VRs_append (VRs_take hv off) (VRs_append hc (VRs_drop hv _)), ?_⟩
    simp [h3]; omega

theorem agg_cells (cs : Array Value) : (Value.agg cs).cells = cs := rfl

theorem splice_row {us : List Value} {m' kq off' mm : Nat} {u0 u' : Value} {xs T : List Value} (hm : ∀ u ∈ us, u.cells.size = m') (hu0 : us[kq]? = some u0) (hxs : xs.length = mm) (hoff : off' + mm ≤ m')
    (hcells : u'.cells.toList = u0.cells.toList.take off' ++ (xs ++ u0.cells.toList.drop (off' + mm))) :
    (us.flatMap (·.cells.toList) ++ T).take (kq * m' + off') ++ (xs ++ (us.flatMap (·.cells.toList) ++ T).drop (kq * m' + off' + mm)) = (us.set kq u').flatMap (·.cells.toList) ++ T := by
  obtain ⟨hkq, hu⟩ := List.getElem?_eq_some_iff.1 hu0
  have hsp : us = us.take kq ++ u0 :: us.drop (kq + 1) := by rw [← hu]; simp
  have hfl : us.flatMap (·.cells.toList) = (us.take kq).flatMap (·.cells.toList) ++ (u0.cells.toList ++ (us.drop (kq + 1)).flatMap (·.cells.toList)) := by
    conv => lhs; rw [hsp]
    rw [List.flatMap_append, List.flatMap_cons]
  have hfl' : (us.set kq u').flatMap (·.cells.toList) = (us.take kq).flatMap (·.cells.toList) ++ (u'.cells.toList ++ (us.drop (kq + 1)).flatMap (·.cells.toList)) := by
    rw [List.set_eq_take_append_cons_drop, if_pos hkq, List.flatMap_append, List.flatMap_cons]
  have hA : ((us.take kq).flatMap (·.cells.toList)).length = kq * m' := by
    rw [flat_length (fun u hu => hm u (List.mem_of_mem_take hu)), List.length_take, Nat.min_eq_left (by omega)]
  have hU : u0.cells.toList.length = m' := by have := hm u0 (List.mem_of_getElem? hu0); simpa using this
  rw [hfl, hfl', hcells]
  generalize (us.take kq).flatMap (·.cells.toList) = A at *
  generalize (us.drop (kq + 1)).flatMap (·.cells.toList) = B at *
  generalize u0.cells.toList = U at *
  have t1 : (A ++ (U ++ B) ++ T).take (kq * m' + off') = A ++ U.take off' := by
    rw [List.append_assoc, List.take_append, hA, List.take_of_length_le (by omega), show kq * m' + off' - kq * m' = off' by omega, List.append_assoc, List.take_append_of_le_length (by omega)]
  have t2 : (A ++ (U ++ B) ++ T).drop (kq * m' + off' + mm) = U.drop (off' + mm) ++ (B ++ T) := by
    rw [List.append_assoc, List.drop_append, hA, List.drop_of_length_le (by omega), show kq * m' + off' + mm - kq * m' = off' + mm by omega, List.append_assoc, List.drop_append_of_le_length (by omega)]; rfl
  rw [t1, t2]
  simp [List.append_assoc]

theorem row_splice {g : Gh} {m' kq off' mm : Nat} {es : List AV} {e' : AV} {u' : Value} {xs vs us : List Value} {tt : TypeId} {w' : World} (hle : Le w M w' M) (r1 : es.length ≤ g.cap) (r2 : g.cap ≤ maxLen) (r4 : vs.length = g.cap * m')
    (r5 : VRs w M G es us) (r6 : ∀ u ∈ us, u.cells.size = m') (r7 : vs.take (m' * es.length) = us.flatMap (·.cells.toList)) {u0 : Value} (hu0 : us[kq]? = some u0) (he' : VR w M G e' u') (hu' : u'.cells.size = m') (hxs : xs.length = mm) (hoff : off' + mm ≤ m')
    (hcells : u'.cells.toList = u0.cells.toList.take off' ++ (xs ++ u0.cells.toList.drop (off' + mm)))
    (e2 : w'.heap[g.blk]? = some (.cells (vs.take (kq * m' + off') ++ (xs ++ vs.drop (kq * m' + off' + mm))).toArray tt (0, 0))) : RowOK w' M G g m' (es.set kq e') := by
  have hul := VRs_length r5
  have hvs : vs = us.flatMap (·.cells.toList) ++ vs.drop (m' * es.length) := by rw [← r7, List.take_append_drop]
  have hsp := splice_row (T := vs.drop (m' * es.length)) r6 hu0 hxs hoff hcells
  rw [← hvs] at hsp
  rw [hsp] at e2
  have hmem : ∀ u ∈ us.set kq u', u.cells.size = m' := fun u hu => by
    rcases List.mem_or_eq_of_mem_set hu with hu | rfl
    · exact r6 u hu
    · exact hu'
  have hfl := flat_length hmem
  rw [List.length_set] at hfl
  have hmul : m' * es.length = us.length * m' := by rw [hul, Nat.mul_comm]
  have hmul2 : us.length * m' ≤ g.cap * m' := Nat.mul_le_mul_right m' (by omega)
  refine ⟨by simpa using r1, r2, _, tt, us.set kq u', e2, ?_, VRs_mono (fun i g h => ⟨g, h, rfl⟩) hle (VRs_set r5 he' kq), hmem, ?_⟩
  · rw [List.length_append, hfl, List.length_drop, hmul]; omega
  · rw [List.length_set, hmul, ← hfl, List.take_left]

theorem run_storeAt_ptr {t : TypeId} {b o : Nat} {v : Value} : (Instr.storeAt t (.pointer (some ⟨b, o, none⟩)) v).run P w = (storeVar t ⟨b, o, none⟩ v).run P w := by
  simp [Instr.storeAt, Instr.sureAddr]

theorem set_self {α : Type} (l : List α) (i : Nat) (x : α) (h : l[i]? = some x) : l.set i x = l := by
  apply List.ext_getElem?
  intro j
  by_cases hj : i = j
  · subst hj
    have := (List.getElem?_eq_some_iff.1 h).1
    simp [this, h]
    exact ((List.getElem?_eq_some_iff.1 h).2).symm
  · rw [List.getElem?_set_ne hj]

theorem do_st {o : Oper} {t : TypeId} {x z : Operand} {y u : Opd} {m : Nat} {c : Co} (ho : o.op = .store t x z) (hm : sizeT P t = some m) (hm0 : 0 < m) (hy : cO x = some y) (hu : cO z = some u) (hst : St w M G H) (hr : RelF w M G n af a)
    (h : (evi af H (.st m c y u)).bnd fun p => k p.1 p.2) : Do P w M G a o k := by
  have hp := cO_sound hy hr
  have hv := cO_sound hu hr
  have main : ∃ H' w' G', k (.tup []) H' ∧ Ext w M G w' M G' ∧ St w' M G' H' ∧ (Instr.storeAt t (a.eval x) (a.eval z)).run P w = .ok () w' := by
    simp only [evi] at h
    rw [bnd_map] at h
    simp only at h
    generalize gt af u = v at *
    cases hq : gt af y <;> simp only [hq, stv, Rs.bnd] at h <;> rw [hq] at hp
    case ptr i off =>
      obtain ⟨g, hg, hx⟩ := hp
      rw [hx, run_storeAt_ptr]
      cases he : ent H i <;> simp only [he, Rs.bnd] at h
      rename_i cs
      rw [bnd_map] at h
      have hH := ent_get he (by simp)
      obtain ⟨h1, ⟨vs, tt, h2, h3⟩, h4⟩ := hst.ok i g _ hg hH
      obtain ⟨cs', k1, k2, k3, k4, k5, k6⟩ := stc_sound hm0 hv h3 h
      obtain ⟨w', e1, e2, e3, e4, e5, e6, e7⟩ := run_storeVar hm k2 h2 k3 k4
      have hgi := (List.getElem?_eq_some_iff.1 hg).1
      have hGs : G.set i g = G := set_self G i g hg
      have hold : ∀ b, b < w.heap.size → ¬ g.fp b → w'.heap[b]? = w.heap[b]? := fun b _ hb => e7 b (fun hbb => hb ((h1 b).2 hbb))
      have hLe : Le w M w' M := fun b q hq => ⟨hq, World.cell?_of_block (w := w) (e7 b (fun hbb => h4 q (hbb ▸ hq)))⟩
      have hst' : St w' M (G.set i g) (H.set i (.blk cs')) := by
        refine St_set hst hg rfl (fun _ h => h) (by omega) hold hLe (fun _ _ h => .inl h) ?_
        rw [hGs]
        exact ⟨h1, ⟨_, tt, e2, VRs_mono (fun i g h => ⟨g, h, rfl⟩) hLe k5⟩, h4⟩
      have hext : Ext w M G w' M (G.set i g) := Ext_set hst hg rfl (fun _ h => h) e3 e4 e5 (by omega) hold hLe (fun _ _ h => .inl h)
      rw [hGs] at hst' hext
      exact ⟨_, w', G, k1, hext, hst', e1⟩
    case rptr i n' kk off =>
      obtain ⟨g, hg, hx⟩ := hp
      rw [hx, run_storeAt_ptr]
      cases he : ent H i <;> simp only [he, Rs.bnd] at h
      rename_i m' es
      have hH := ent_get he (by simp)
      obtain ⟨h1, ⟨r1, r2, vs, tt, us, r3, r4, r5, r6, r7⟩, h4⟩ := hst.ok i g _ hg hH
      have hul := VRs_length r5
      have hvc := co_sound hst c v _ hv
      have hGs : G.set i g = G := set_self G i g hg
      have fin : ∀ (es' : List AV) (w' : World) (vs' : List Value), w'.heap[g.blk]? = some (.cells vs'.toArray tt (0, 0)) → w'.os = w.os → w'.tape = w.tape → w'.output = w.output → w'.heap.size = w.heap.size → (∀ c, c ≠ g.blk → w'.heap[c]? = w.heap[c]?) →
          (Le w M w' M → RowOK w' M G g m' es') → Ext w M G w' M G ∧ St w' M G (H.set i (.mrow m' es')) := by
        intro es' w' vs' e2 e3 e4 e5 e6 e7 hrow
        have hold : ∀ b, b < w.heap.size → ¬ g.fp b → w'.heap[b]? = w.heap[b]? := fun b _ hb => e7 b (fun hbb => hb ((h1 b).2 hbb))
        have hLe : Le w M w' M := fun b q hq => ⟨hq, World.cell?_of_block (w := w) (e7 b (fun hbb => h4 q (hbb ▸ hq)))⟩
        have hst' : St w' M (G.set i g) (H.set i (.mrow m' es')) :=
          St_set hst hg rfl (fun _ h => h) (by omega) hold hLe (fun _ _ h => .inl h) (by rw [hGs]; exact ⟨h1, hrow hLe, h4⟩)
        have hext : Ext w M G w' M (G.set i g) := Ext_set hst hg rfl (fun _ h => h) e3 e4 e5 (by omega) hold hLe (fun _ _ h => .inl h)
        rw [hGs] at hst' hext
        exact ⟨hext, hst'⟩
      have hcapm : us.length * m' ≤ g.cap * m' := Nat.mul_le_mul_right m' (by omega)
      split at h
      · rename_i h0
        obtain ⟨rfl, rfl⟩ := h0
        simp only [Rs.bnd] at h
        obtain ⟨⟨rfl, hk, hsh⟩, h⟩ := h
        obtain ⟨u0, hu0, _⟩ := VRs_getD r5 hk
        have hsz : (a.eval z).cells.size = m' ∧ ∀ q ∈ (a.eval z).cells.toList, q.oneCell' = true := by
          rcases hsh with ⟨s1, s2, s3⟩ | ⟨s1, s2⟩
          · have hc := VR_cells hvc (.inl s1)
            have := VRs_length hc
            exact ⟨by simpa [s2] using this, VRs_one hc s3⟩
          · obtain ⟨s3, s4⟩ := VR_leaf hvc s2
            exact ⟨by simp [s4, s1], by simp [s4, s3]⟩
        have hprod : kk * m' + m' ≤ us.length * m' := by rw [← Nat.succ_mul]; exact Nat.mul_le_mul_right m' (by omega)
        obtain ⟨w', e1, e2, e3, e4, e5, e6, e7⟩ := run_storeVar (o := kk * m' + 0) hm hsz.1 r3 (by omega) hsz.2
        have hu0s := r6 u0 (List.mem_of_getElem? hu0)
        obtain ⟨f1, f2⟩ := fin (es.set kk (co H c v)) w' _ e2 e3 e4 e5 e6 e7 (fun hle => row_splice (off' := 0) (mm := m') (xs := (a.eval z).cells.toList) hle r1 r2 r4 r5 r6 r7 hu0 hvc hsz.1 (by simpa using hsz.1) (by omega)
          (by rw [List.take_zero, List.drop_of_length_le (by simp; omega)]; simp) e2)
        exact ⟨_, w', G, h, f1, f2, e1⟩
      · simp only [Rs.bnd] at h
        obtain ⟨⟨rfl, hk, hag⟩, h⟩ := h
        rw [bnd_map] at h
        obtain ⟨u0, hu0, hu0v⟩ := VRs_getD r5 hk
        obtain ⟨cs0, vs0, hcs0, rfl, hvs0⟩ := VR_isAgg hu0v hag
        rw [hcs0] at h
        simp only [AV.cells] at h
        obtain ⟨cs', k1, k2, k3, k4, k5, k6⟩ := stc_sound hm0 hvc hvs0 h
        have hu0s : vs0.length = m' := by have := r6 _ (List.mem_of_getElem? hu0); simpa [Value.cells] using this
        have hprod : kk * m' + m' ≤ us.length * m' := by rw [← Nat.succ_mul]; exact Nat.mul_le_mul_right m' (by omega)
        obtain ⟨w', e1, e2, e3, e4, e5, e6, e7⟩ := run_storeVar (o := kk * m' + off) hm k2 r3 (by omega) k4
        obtain ⟨f1, f2⟩ := fin (es.set kk (.agg cs')) w' _ e2 e3 e4 e5 e6 e7 (fun hle => row_splice (off' := off) (mm := m) (u' := .agg (vs0.take off ++ ((a.eval z).cells.toList ++ vs0.drop (off + m))).toArray) (xs := (a.eval z).cells.toList) hle r1 r2 r4 r5 r6 r7 hu0
          ⟨_, rfl, k5⟩ (by rw [agg_cells, List.size_toArray, List.length_append, List.length_append, List.length_take, List.length_drop, show (a.eval z).cells.toList.length = m by simpa using k2]; omega) (by simpa using k2) (by omega) (by rw [agg_cells, agg_cells]) e2)
        exact ⟨_, w', G, k1, f1, f2, e1⟩
  obtain ⟨H', w', G', h1, h2, h3, h4⟩ := main
  refine ⟨_, H', undef, w', M, G', h1, h2, h3, ⟨[], rfl, rfl⟩, .inr ⟨?_, rfl⟩⟩
  simp only [execOp, ho, Sem.run_bind, h4, Result.andThen_ok, Sem.run_pure]
end
end Go.V

/-
  The value logic, part i: rows: literals of slices, make, append.
-/
namespace Go.V
open Go Go.RowKit
set_option linter.unusedVariables false
set_option linter.unusedSimpArgs false

section
variable {P : Program} {w : World} {M : Nat → Nat → Prop} {G : List Gh} {H : List Ent} {n : Nat} {af : AF} {a : Act} {k : AV → List Ent → Prop}

theorem elemT_under {t e : TypeId} (h : elemT P t = some e) : P.underlying t = some (.slice e) := by
  unfold elemT at h
  split at h
  · rename_i e' he; simp at h; subst h; exact he
  · cases h
theorem run_typeInfo {t : TypeId} {i : TypeInfo} (h : P.info? t = some i) : (typeInfo t).run P w = .ok i w := by
  simp [typeInfo, h]
theorem bytesT_info {t : TypeId} {m : Nat} (h : bytesT P t = some m) : ∃ i, P.info? t = some i ∧ i.bytes = m := by
  unfold bytesT at h
  cases hi : P.info? t with
  | none => simp [hi] at h
  | some i => exact ⟨i, rfl, by simpa [hi] using h⟩

/-- Immutable cells more, in a block that is new. -/
def Madd (M : Nat → Nat → Prop) (b m : Nat) : Nat → Nat → Prop := fun c o => M c o ∨ (c = b ∧ o < m)

/-- A new row that nobody writes any more. -/
theorem push_sl (hst : St w M G H) {es : List AV} {us : List Value} {m : Nat} {t : TypeId} (hv : VRs w M G es us) (hm : ∀ u ∈ us, u.cells.size = m) (hone : ∀ u ∈ us, ∀ c ∈ u.cells.toList, c.oneCell' = true) (hl : us.length ≤ maxLen) :
    let w' := w.alloc (.cells (us.flatMap (·.cells.toList)).toArray t)
    let M' := Madd M w.heap.size (us.flatMap (·.cells.toList)).length
    Ext w M G w' M' G ∧ St w' M' G H ∧ VR w' M' G (.lit m es) (.slice (some ⟨w.heap.size, 0, none⟩) us.length us.length) := by
  intro w' M'
  have hold : ∀ b, b < w.heap.size → w'.heap[b]? = w.heap[b]? := fun b hb => Below.heap_alloc _ _ _ hb
  have hfr : ∀ b o, M' b o → M b o ∨ (w.heap.size ≤ b ∧ b < w'.heap.size ∧ ∀ v, w'.cell? ⟨b, o, none⟩ = some v → v.oneCell' = true) := fun b o h => by
    rcases h with h | ⟨rfl, h⟩
    · exact .inl h
    · refine .inr ⟨Nat.le_refl _, by show w.heap.size < (w.alloc _).heap.size; simp, fun v hv => ?_⟩
      rw [cell_of_heap (heap_alloc_new w _)] at hv
      obtain ⟨u, hu, hc⟩ := List.mem_flatMap.1 (List.mem_of_getElem? hv)
      exact hone u hu v hc
  have hsz : w.heap.size ≤ w'.heap.size := by show w.heap.size ≤ (w.alloc _).heap.size; simp
  refine ⟨Ext_same hst rfl rfl rfl hsz hold (fun _ _ h => .inl h) (fun b o h => (hfr b o h).imp id fun q => ⟨q.1, q.2.1⟩), St_same hst hsz hold (fun _ _ h => .inl h) hfr, some ⟨w.heap.size, 0, none⟩, us, ?_, ⟨Nat.le_refl _, hl, hm, .inr ⟨rfl, fun j v hj => ?_⟩⟩, rfl⟩
  · exact VRs_mono (fun i g h => ⟨g, h, rfl⟩) (fun b o h => ⟨.inl h, World.cell?_of_block (w := w) (hold b (hst.Mlt b o h))⟩) hv
  · simp only [Nat.zero_add]
    have hj' := (List.getElem?_eq_some_iff.1 hj).1
    exact ⟨by rw [cell_of_heap (heap_alloc_new w _)]; exact hj, .inr ⟨rfl, hj'⟩⟩

theorem gco_sound {P : Program} {c : Co} (hst : St w M G H) (hr : RelF w M G n af a) : ∀ (parts : List (Nat × Operand)) (j : Nat) (l : List (Opd × Co)), cRow P c parts j = some l →
    VRs w M G (gco H af l) (parts.map fun p => a.eval p.2) ∧ ∀ (i : Nat) (p : Nat × Operand), parts[i]? = some p → p.1 = j + i
  | [], j, l, h => by simp [cRow] at h; subst h; exact ⟨rfl, by simp⟩
  | (i, x) :: r, j, l, h => by
    simp only [cRow] at h
    split at h
    · rename_i hij
      split at h
      · rename_i b l' hb hl
        simp at h; subst h
        obtain ⟨h1, h2⟩ := gco_sound hst hr r (j + 1) l' hl
        refine ⟨⟨_, _, rfl, co_sound hst _ _ _ (cO_sound hb hr), h1⟩, fun q p hq => ?_⟩
        cases q with
        | zero => simp at hq; subst hq; simpa using hij
        | succ q => simp at hq; have := h2 q p hq; omega
      · cases h
    · cases h

theorem bslOK_spec {m : Nat} : ∀ {l : List AV}, bslOK m l → ∀ v ∈ l, v.cells.length = m ∧ v.flat
  | [], _, v, hv => by cases hv
  | x :: r, h, v, hv => by
    obtain ⟨h1, h2⟩ := h
    rcases List.mem_cons.1 hv with rfl | hv
    · exact h1
    · exact bslOK_spec h2 v hv

theorem VR_flat_one {v : AV} {x : Value} (h : VR w M G v x) (hf : v.flat) : ∀ c ∈ x.cells.toList, c.oneCell' = true := by
  have hc := VR_cells h (by rcases hf with q | q <;> simp [q])
  rcases hf with ⟨_, h2⟩ | h2
  · exact VRs_one hc h2
  · obtain ⟨s3, s4⟩ := VR_leaf h h2
    intro c hc; rw [s4] at hc; simp at hc; subst hc; exact s3

theorem VRs_flat_one {l : List AV} {us : List Value} (hv : VRs w M G l us) (h : ∀ v ∈ l, v.flat) : ∀ u ∈ us, ∀ c ∈ u.cells.toList, c.oneCell' = true := by
  induction l generalizing us with
  | nil => simp only [VRs] at hv; subst hv; simp
  | cons c l ih =>
    simp only [VRs] at hv
    obtain ⟨x, r, rfl, h1, h2⟩ := hv
    intro u hu
    rcases List.mem_cons.1 hu with rfl | hu
    · exact VR_flat_one h1 (h c (by simp))
    · exact ih h2 (fun v hv => h v (by simp [hv])) u hu

theorem VRs_sizes {l : List AV} {us : List Value} {m : Nat} (hv : VRs w M G l us) (h : ∀ v ∈ l, v.cells.length = m ∧ v.flat) : ∀ u ∈ us, u.cells.size = m := by
  induction l generalizing us with
  | nil => simp only [VRs] at hv; subst hv; simp
  | cons c l ih =>
    simp only [VRs] at hv
    obtain ⟨x, r, rfl, h1, h2⟩ := hv
    intro u hu
    rcases List.mem_cons.1 hu with rfl | hu
    · have := VRs_length (VR_cells h1 (by rcases (h c (by simp)).2 with q | q <;> simp [q]))
      rw [(h c (by simp)).1] at this
      simpa using this
    · exact ih h2 (fun v hv => h v (by simp [hv])) u hu

/-- Parts in order fill a row one behind the other. -/
theorem fill_row {m : Nat} : ∀ (ps : List (Nat × Value)) (j : Nat) (A R : List Value) (cells : Array Value), (∀ (i : Nat) (p : Nat × Value), ps[i]? = some p → p.1 = j + i ∧ p.2.cells.size = m) →
    cells.toList = A ++ R → A.length = j * m → R.length = ps.length * m → Instr.fill (fun i => some (i * m, m)) cells ps = some (A ++ ps.flatMap (·.2.cells.toList)).toArray
  | [], j, A, R, cells, h, hc, hA, hR => by
    have : R = [] := List.eq_nil_of_length_eq_zero (by simpa using hR)
    subst this
    simp only [Instr.fill, List.flatMap_nil, List.append_nil]
    rw [← hc.trans (by simp : A ++ [] = A)]
  | (i, v) :: ps, j, A, R, cells, h, hc, hA, hR => by
    obtain ⟨h1, h2⟩ := h 0 (i, v) (by simp)
    simp only [Nat.add_zero] at h1 h2
    subst h1
    have hcs : cells.size = i * m + R.length := by rw [← Array.length_toList, hc, List.length_append, hA]
    simp only [List.length_cons, Nat.succ_mul] at hR
    obtain ⟨c', e1, e2⟩ := fill_step (place := fun i => some (i * m, m)) (i := i) (off := i * m) (m := m) (v := v) (rest := ps) (cells := cells) rfl h2 (by rw [hcs]; omega)
    rw [e1]
    have e3 : c'.toList = (A ++ v.cells.toList) ++ R.drop m := by
      rw [e2, hc, List.take_left' hA, List.append_assoc, ← hA, ← List.drop_drop, List.drop_left]
    have := fill_row ps (i + 1) (A ++ v.cells.toList) (R.drop m) c' (fun q p hq => by have := h (q + 1) p (by simpa using hq); exact ⟨by omega, this.2⟩) e3 (by simp [hA, h2, Nat.succ_mul]) (by simp; omega)
    rw [this]
    simp [List.append_assoc]

theorem do_bsl {o : Oper} {t e : TypeId} {len m : Nat} {parts : Array (Nat × Operand)} {l : List (Opd × Co)} (ho : o.op = .buildSlice t len parts) (he : elemT P t = some e) (hm : sizeT P e = some m) (hl : cRow P (coT P e) parts.toList 0 = some l)
    (hlen : l.length = len) (hbig : len * m ≤ 16777216) (hz : len * m = 0 ∨ ((P.info? e).bind (·.zero)).isSome = true) (hm0 : 0 < m) (hst : St w M G H) (hr : RelF w M G n af a) (h : (evi af H (.v (.bsl m l))).bnd fun p => k p.1 p.2) : Do P w M G a o k := by
  refine Do.of (s := Instr.buildSlice t len (parts.map fun (i, x) => (i, a.eval x))) (by simp only [execOp, ho]) ?_
  simp only [evi] at h
  rw [bnd_map] at h
  simp only [evv, Rs.bnd] at h
  obtain ⟨hok, h⟩ := h
  obtain ⟨hv, hidx⟩ := gco_sound hst hr parts.toList 0 l hl
  have hsz := VRs_sizes hv (bslOK_spec hok)
  have hll : ∀ (ps : List (Nat × Operand)) (j : Nat) (l : List (Opd × Co)), cRow P (coT P e) ps j = some l → l.length = ps.length := by
    intro ps
    induction ps with
    | nil => intro j l h; simp [cRow] at h; subst h; rfl
    | cons p r ih =>
      intro j l h
      obtain ⟨i, x⟩ := p
      simp only [cRow] at h
      split at h
      · split at h
        · rename_i b l' hb hl'
          simp at h; subst h
          simp [ih _ _ hl']
        · cases h
      · cases h
  have hpl : parts.toList.length = len := by rw [← hll _ _ _ hl]; exact hlen
  have hmaxl : len ≤ maxLen := by unfold maxLen; have := Nat.le_mul_of_pos_right len hm0; omega
  obtain ⟨g1, g2, g3⟩ := push_sl (t := e) hst hv hsz (VRs_flat_one hv fun v hv => (bslOK_spec hok v hv).2) (by simpa [hpl] using hmaxl)
  have hpt : (parts.map fun (i, x) => (i, a.eval x)).toList = parts.toList.map fun (i, x) => (i, a.eval x) := by simp
  -- the row before it is filled
  have hfill : ∀ cells : Array Value, cells.size = len * m → Instr.fill (fun i => some (i * m, m)) cells (parts.toList.map fun (i, x) => (i, a.eval x)) = some ((parts.toList.map fun p => a.eval p.2).flatMap (·.cells.toList)).toArray := by
    intro cells hc
    have := fill_row (m := m) (parts.toList.map fun (i, x) => (i, a.eval x)) 0 [] cells.toList cells (fun i p hp => ?_) (by simp) (by simp) (by simp only [List.length_map, hpl]; simpa using hc)
    · rw [this]; simp [List.flatMap_map]
    · simp only [List.getElem?_map, Option.map_eq_some_iff] at hp
      obtain ⟨q, hq, rfl⟩ := hp
      exact ⟨hidx i q hq, hsz _ (List.mem_map.2 ⟨q, List.mem_of_getElem? hq, rfl⟩)⟩
  refine ⟨_, H, _, _, _, G, h, g1, g2, g3, ?_⟩
  have hb : ¬ (len * m > 2 ^ 24) := by simp; omega
  have hlm : (parts.toList.map fun p => a.eval p.2).length = len := by simpa using hpl
  simp only [Instr.buildSlice, Sem.run_bind, run_underlying (elemT_under he), Result.andThen_ok, run_sizeOf hm, Sem.run_ite, if_neg hb, Sem.run_pure]
  rw [hlm]
  by_cases h0 : len * m = 0
  · simp only [h0, if_true, Result.andThen_ok, hpt]
    rw [hfill _ (by simp [h0])]
    simp [newRow]
  · have hzz := hz.resolve_left h0
    obtain ⟨z, hz'⟩ := Option.isSome_iff_exists.1 hzz
    simp only [h0, if_false, run_zeroValue hz', Result.andThen_ok, hpt]
    rw [hfill _ (by simp)]
    simp [newRow]

/-- A new row of the activation's own, which may be written. -/
theorem push_mrow (hst : St w M G H) {es : List AV} {us vs : List Value} {m c : Nat} {t : TypeId} (hv : VRs w M G es us) (hm : ∀ u ∈ us, u.cells.size = m) (hc : c ≤ maxLen) (hlc : us.length ≤ c) (hvs : vs.length = c * m) (htk : vs.take (m * us.length) = us.flatMap (·.cells.toList)) :
    ∃ g : Gh, g.blk = w.heap.size ∧ g.cap = c ∧ St (w.alloc (.cells vs.toArray t)) M (G ++ [g]) (H ++ [.mrow m es]) ∧ Ext w M G (w.alloc (.cells vs.toArray t)) M (G ++ [g]) := by
  have hul := VRs_length hv
  refine ⟨{ blk := w.heap.size, cap := c, fp := fun b => b = w.heap.size }, rfl, rfl, ?_, ?_⟩
  · refine St_push hst (by simp) (fun b hb => Below.heap_alloc _ _ _ hb) (fun _ _ h => h) (fun _ _ h => .inl h) (fun b o h => by have := hst.Mlt b o h; simp; omega) (fun b hb => by subst hb; simp) ?_
    refine ⟨fun b => Iff.rfl, ⟨by rw [← hul]; exact hlc, hc, vs, t, us, heap_alloc_new _ _, hvs, ?_, hm, by rw [← hul]; exact htk⟩, fun o hm => by have := hst.Mlt _ o hm; simp at this⟩
    exact VRs_mono (core_snoc G _) (fun b o hm => ⟨hm, World.cell?_of_block (w := w) (Below.heap_alloc _ _ _ (hst.Mlt b o hm))⟩) hv
  · exact Ext_push hst rfl rfl rfl (by simp) (fun b hb => Below.heap_alloc _ _ _ hb) (fun _ _ h => h) (fun _ _ h => .inl h) (fun b hb => by subst hb; exact Nat.le_refl _)

/-- A new row of the activation's own, to which more may be appended. -/
theorem push_app (hst : St w M G H) {es : List AV} {us vs : List Value} {m c : Nat} {t : TypeId} (hv : VRs w M G es us) (hm : ∀ u ∈ us, u.cells.size = m) (hone : ∀ u ∈ us, ∀ c ∈ u.cells.toList, c.oneCell' = true) (hc : c ≤ maxLen) (hlc : us.length ≤ c) (hvs : vs.length = c * m) (htk : vs.take (m * us.length) = us.flatMap (·.cells.toList)) :
    ∃ g : Gh, g.blk = w.heap.size ∧ g.cap = c ∧ St (w.alloc (.cells vs.toArray t)) (Madd M w.heap.size (m * us.length)) (G ++ [g]) (H ++ [.app m es]) ∧ Ext w M G (w.alloc (.cells vs.toArray t)) (Madd M w.heap.size (m * us.length)) (G ++ [g]) := by
  have hul := VRs_length hv
  have hfr : ∀ b o, Madd M w.heap.size (m * us.length) b o → M b o ∨ w.heap.size ≤ b ∧ ∀ v, (w.alloc (.cells vs.toArray t)).cell? ⟨b, o, none⟩ = some v → v.oneCell' = true := fun b o h => by
    rcases h with h | ⟨rfl, h⟩
    · exact .inl h
    · refine .inr ⟨Nat.le_refl _, fun v hv => ?_⟩
      rw [cell_of_heap (heap_alloc_new w _)] at hv
      have hv' : (us.flatMap (·.cells.toList))[o]? = some v := by rw [← htk, List.getElem?_take_of_lt h]; exact hv
      obtain ⟨u, hu, hc⟩ := List.mem_flatMap.1 (List.mem_of_getElem? hv')
      exact hone u hu v hc
  refine ⟨{ blk := w.heap.size, cap := c, fp := fun b => b = w.heap.size }, rfl, rfl, ?_, ?_⟩
  · refine St_push hst (by simp) (fun b hb => Below.heap_alloc _ _ _ hb) (fun _ _ h => .inl h) hfr (fun b o h => ?_) (fun b hb => by subst hb; simp) ?_
    · rcases h with h | ⟨rfl, h⟩
      · have := hst.Mlt b o h; simp; omega
      · simp
    refine ⟨fun b => Iff.rfl, ⟨by rw [← hul]; exact hlc, hc, vs, t, us, heap_alloc_new _ _, hvs, ?_, hm, by rw [← hul]; exact htk⟩, fun o => ?_⟩
    · exact VRs_mono (core_snoc G _) (fun b o hm => ⟨.inl hm, World.cell?_of_block (w := w) (Below.heap_alloc _ _ _ (hst.Mlt b o hm))⟩) hv
    · rw [← hul]
      constructor
      · rintro (h | ⟨_, h⟩)
        · have := hst.Mlt _ o h; simp at this
        · exact h
      · exact fun h => .inr ⟨rfl, h⟩
  · exact Ext_push hst rfl rfl rfl (by simp) (fun b hb => Below.heap_alloc _ _ _ hb) (fun _ _ h => .inl h) (fun b o h => (hfr b o h).imp id (·.1)) (fun b hb => by subst hb; exact Nat.le_refl _)

theorem flat_replicate (z : Value) (l : Nat) : ((List.replicate l z).flatMap (·.cells.toList)) = (List.range (l * z.cells.size)).map fun i => z.cells[i % z.cells.size]! := by
  induction l with
  | zero => simp
  | succ l ih =>
    rw [List.replicate_succ', List.flatMap_append, ih, Nat.succ_mul, List.range_add, List.map_append]
    congr 1
    apply List.ext_getElem?
    intro i
    simp only [List.flatMap_cons, List.flatMap_nil, List.append_nil, List.map_map, List.getElem?_map]
    by_cases hi : i < z.cells.size
    · simp [hi, Nat.mod_eq_of_lt hi]
    · simp [hi]

theorem VRs_replicate {z : AV} {x : Value} (h : VR w M G z x) (l : Nat) : VRs w M G (List.replicate l z) (List.replicate l x) := by
  induction l with
  | zero => rfl
  | succ l ih => exact ⟨x, _, rfl, h, ih⟩

theorem wrap_id {z : Int} (h0 : 0 ≤ z) (h1 : z ≤ maxLen) : IntKind.i64.wrap z = z := by
  unfold maxLen at h1
  simp [IntKind.wrap, IntKind.signed, IntKind.bits]
  omega

theorem do_mks {o : Oper} {t e : TypeId} {len cap : Operand} {l c : Opd} {m bytes : Nat} {z : AV} (ho : o.op = .makeSlice t len cap) (he : elemT P t = some e) (hm : sizeT P e = some m) (hby : bytesT P e = some bytes) (hz : zeroT P e = some z)
    (hzl : z.cells.length = m) (hza : z.cells.all AV.leaf = true) (hm0 : 0 < m) (hl : cO len = some l) (hc : cO cap = some c) (hst : St w M G H) (hr : RelF w M G n af a) (h : (evi af H (.mks m z bytes l c)).bnd fun p => k p.1 p.2) : Do P w M G a o k := by
  refine Do.of (s := Instr.makeSlice t (a.eval len) (a.eval cap)) (by simp only [execOp, ho]) ?_
  have hvl := cO_sound hl hr
  have hvc := cO_sound hc hr
  simp only [evi] at h
  cases hq : gt af l <;> cases hq' : gt af c <;> simp only [hq, hq', mksv, Rs.bnd] at h
  rw [hq] at hvl; rw [hq'] at hvc
  rename_i k1 z1 k2 z2
  obtain ⟨⟨h0, rfl, hb, hmx⟩, h⟩ := h
  obtain ⟨i, hi, hib⟩ := bytesT_info hby
  obtain ⟨zv, hz1, hz2, hzf⟩ := zeroT_sound (w := w) (M := M) (G := G) hz
  have hzc := VR_cells hz2 (by rcases hzf with q | q <;> simp [q])
  have hzs : zv.cells.size = m := by have := VRs_length hzc; simpa [hzl] using this
  have hrep := VRs_replicate hz2 z1.toNat
  have hfl := flat_replicate zv z1.toNat
  rw [hzs] at hfl
  have hmaxn : z1.toNat ≤ maxLen := by omega
  obtain ⟨g, hg1, hg2, hg3, hg4⟩ := push_mrow (m := m) (t := e) (vs := (List.range (z1.toNat * m)).map fun i => zv.cells[i % m]!) (c := z1.toNat) hst hrep (fun u hu => by rw [(List.mem_replicate.1 hu).2]; exact hzs) hmaxn (by simp) (by simp)
    (by rw [hfl, List.length_replicate]; apply List.take_of_length_le; simp; rw [Nat.mul_comm]; exact Nat.le_refl _)
  refine ⟨_, _, .slice (some ⟨w.heap.size, 0, none⟩) z1.toNat z1.toNat, _, _, _, h, hg4, hg3, ⟨g, ?_, by rw [hg1, hg2]⟩, ?_⟩
  · rw [← hst.len, getElem?_snoc]; simp
  · have hw := wrap_id h0 hmx
    have hb' : ¬ ((bytes : Int) * z1 > 2 ^ 48) := by
      have : (2 : Int) ^ 48 = 281474976710656 := by decide
      rw [this]; omega
    have hcond : ¬ ((z1 < 0 ∨ (bytes : Int) * z1 > 2 ^ 48) ∨ z1 < 0 ∨ z1 > z1) := by omega
    simp only [Instr.makeSlice, Sem.run_bind, run_underlying (elemT_under he), Result.andThen_ok, hvl.1, hvc.1, asInt, asIntOf, Sem.run_pure, run_typeInfo hi, hib, hw]
    have c1 : ((decide (z1 < 0) || decide ((bytes : Int) * z1 > 2 ^ 48) || decide (z1 < 0) || decide (z1 > z1)) = true) = False := by
      simp only [Bool.or_eq_true, decide_eq_true_eq, eq_iff_iff, iff_false]; omega
    simp only [c1, if_false, run_askRoom, Result.andThen_ok, run_sizeOf hm, Sem.run_bind, Sem.run_ite]
    by_cases hz0 : z1.toNat * m = 0
    · have hr0 : Array.range 0 = #[] := rfl
      simp [hz0, newRow, hr0]
    · simp [hz0, hz1, newRow, hzs]
      congr 2
      apply Array.ext'
      simp [Array.toList_range]
end
end Go.V

/-
  The value logic, part j: append.
-/
namespace Go.V
open Go Go.RowKit
set_option linter.unusedVariables false
set_option linter.unusedSimpArgs false

section
variable {P : Program} {w : World} {M : Nat → Nat → Prop} {G : List Gh} {H : List Ent} {n : Nat} {af : AF} {a : Act} {k : AV → List Ent → Prop}

/-- The source of an append: its values; its cells are read. -/
def Src (P : Program) (w : World) (M : Nat → Nat → Prop) (G : List Gh) (m : Nat) (ys : List AV) (y : Value) : Prop :=
  ∃ us, VRs w M G ys us ∧ (∀ u ∈ us, u.cells.size = m) ∧ (∀ u ∈ us, ∀ c ∈ u.cells.toList, c.oneCell' = true) ∧ (Builtin.lenOf y).run P w = .ok us.length w ∧
    ∀ w' : World, (∀ b o, M b o → w'.cell? ⟨b, o, none⟩ = w.cell? ⟨b, o, none⟩) → (Builtin.firstCells m us.length y).run P w' = .ok (us.flatMap (·.cells.toList)).toArray w'

theorem firstCells_sl {m cap : Nat} {us : List Value} {ad : Option Addr} (h : SlOK w M m us ad cap) (w' : World) (hw : ∀ b o, M b o → w'.cell? ⟨b, o, none⟩ = w.cell? ⟨b, o, none⟩) :
    (Builtin.firstCells m us.length (.slice ad us.length cap)).run P w' = .ok (us.flatMap (·.cells.toList)).toArray w' := by
  obtain ⟨h1, h2, h3, h4⟩ := h
  cases ad with
  | none =>
    have h4 : cap = 0 := h4
    have : us = [] := List.eq_nil_of_length_eq_zero (by omega)
    subst this
    simp [Builtin.firstCells]
  | some d =>
    rcases h4 with h4 | ⟨h5, h6⟩
    · subst h4; simp [Builtin.firstCells, loadCells, loadCellsFrom]
    have hd : d = ⟨d.block, d.off + 0, none⟩ := by cases d; simp at h5; subst h5; rfl
    have hl := flat_length h3
    simp only [Builtin.firstCells]
    rw [hd, run_cells (vs := us.flatMap (·.cells.toList)) (fun j v hj => by obtain ⟨q1, q2⟩ := h6 j v hj; rw [hw _ _ q2]; exact q1) 0 (us.length * m) (by omega)]
    rw [List.drop_zero, List.take_of_length_le (by omega)]

theorem SlOK_one (hst : St w M G H) {m cap : Nat} {us : List Value} {ad : Option Addr} (h : SlOK w M m us ad cap) : ∀ u ∈ us, ∀ c ∈ u.cells.toList, c.oneCell' = true := by
  obtain ⟨h1, h2, h3, h4⟩ := h
  intro u hu c hc
  cases ad with
  | none =>
    have h4 : cap = 0 := h4
    have : us = [] := List.eq_nil_of_length_eq_zero (by omega)
    subst this; cases hu
  | some d =>
    obtain ⟨j, hj⟩ := List.mem_iff_getElem?.1 (List.mem_flatMap.2 ⟨u, hu, hc⟩ : c ∈ us.flatMap (·.cells.toList))
    obtain ⟨q1, q2⟩ := (h4.resolve_left (fun e => by subst e; cases hu)).2 j c hj
    exact hst.one _ _ _ q2 q1

theorem appArg_sound {m : Nat} {v : AV} {y : Value} {kk : List AV → Prop} (hst : St w M G H) (hv : VR w M G v y) (h : (appArg m H v).bnd kk) : ∃ ys, kk ys ∧ Src P w M G m ys y := by
  cases v <;> simp only [appArg, Rs.bnd] at h
  case nils =>
    simp only [VR] at hv; subst hv
    exact ⟨_, h, [], rfl, by simp, by simp, by simp [Builtin.lenOf], fun w' _ => by simp [Builtin.firstCells]⟩
  case sl m' es =>
    obtain ⟨rfl, h⟩ := h
    obtain ⟨ad, cap, us, h1, h2, rfl⟩ := hv
    exact ⟨_, h, us, h1, h2.2.2.1, SlOK_one hst h2, by simp [Builtin.lenOf], fun w' hw => firstCells_sl h2 w' hw⟩
  case lit m' es =>
    obtain ⟨rfl, h⟩ := h
    obtain ⟨ad, us, h1, h2, rfl⟩ := hv
    exact ⟨_, h, us, h1, h2.2.2.1, SlOK_one hst h2, by simp [Builtin.lenOf], fun w' hw => firstCells_sl h2 w' hw⟩
  case row i len =>
    cases he : ent H i <;> simp only [he, Rs.bnd] at h
    rename_i m' es
    obtain ⟨⟨rfl, hlen⟩, h⟩ := h
    obtain ⟨g, hg, rfl⟩ := hv
    obtain ⟨_, hrow, hM⟩ := hst.ok i g _ hg (ent_get he (by simp))
    obtain ⟨us, h1, h2, h3⟩ := row_SlOK hrow hM hlen
    subst h3
    exact ⟨_, h, us, h1, h2.2.2.1, SlOK_one hst h2, by simp [Builtin.lenOf], fun w' hw => firstCells_sl h2 w' hw⟩

theorem nextcap_le {need cap : Nat} (h : cap < need) : Builtin.nextslicecap need cap ≤ need + need + 768 := by
  have hg : ∀ r c, c ≤ need + need + 768 → Builtin.growBy need r c ≤ need + need + 768 := by
    intro r
    induction r with
    | zero => intro c hc; exact hc
    | succ r ih =>
      intro c hc
      simp only [Builtin.growBy]
      split
      · exact hc
      · exact ih _ (by omega)
  unfold Builtin.nextslicecap
  split
  · omega
  · split
    · omega
    · exact hg 4 cap (by omega)

theorem zeroCells_length (z : Array Value) (q : Nat) : (Builtin.zeroCells z q).size = q * z.size := by simp [Builtin.zeroCells]

/-- The append grows: a new row. -/
theorem run_append_grow {t e : TypeId} {ty : TypeId} {m bytes cap : Nat} {us vs : List Value} {ad : Option Addr} {y : Value} {t' : TypeId} {ys : List AV} {z : AV} (he : elemT P t = some e) (he' : elemT P t' = some e) (hm : sizeT P e = some m) (hby : bytesT P e = some bytes) (hz : zeroT P e = some z)
    (hzl : z.cells.length = m) (hsl : SlOK w M m us ad cap) (hvs : (Builtin.lenOf y).run P w = .ok vs.length w) (hc : ∀ w' : World, (∀ b o, M b o → w'.cell? ⟨b, o, none⟩ = w.cell? ⟨b, o, none⟩) → (Builtin.firstCells m vs.length y).run P w' = .ok (vs.flatMap (·.cells.toList)).toArray w')
    (hgrow : cap < us.length + vs.length) (hb : ((us.length + vs.length) + (us.length + vs.length) + 768) * bytes ≤ 281474976710656) (hbb : (us.length + vs.length) ≤ maxLen) :
    ∃ c rest, us.length + vs.length ≤ c ∧ c ≤ maxLen ∧ rest.length = (c - (us.length + vs.length)) * m ∧
      (Builtin.append_ #[t, t'] ty #[.slice ad us.length cap, y]).run P w = .ok (.slice (some ⟨w.heap.size, 0, none⟩) (us.length + vs.length) c)
        (w.drew.alloc (.cells (us.flatMap (·.cells.toList) ++ vs.flatMap (·.cells.toList) ++ rest).toArray e)) := by
  obtain ⟨i, hi, hib⟩ := bytesT_info hby
  obtain ⟨zv, hz1, hz2, hzf⟩ := zeroT_sound (w := w.drew) (M := M) (G := []) hz
  have hzs : zv.cells.size = m := by
    have hzc := VR_cells hz2 (by rcases hzf with q | q <;> simp [q])
    have := VRs_length hzc
    simpa [hzl] using this
  let q := Question.appendCap (us.length + vs.length) cap e
  let c := q.cut (w.tape w.drawn q)
  have hcut : c = (us.length + vs.length) + (w.tape w.drawn q) % (2 ^ 63 - (us.length + vs.length)) := rfl
  have hml : us.length + vs.length < 2 ^ 63 := by unfold maxLen at hbb; omega
  have hmod := Nat.mod_lt (w.tape w.drawn q) (show 0 < 2 ^ 63 - (us.length + vs.length) by omega)
  refine ⟨c, (Builtin.zeroCells zv.cells (c - (us.length + vs.length))).toList, by omega, by unfold maxLen; omega, by simp [zeroCells_length, hzs], ?_⟩
  have h1 : ¬ (us.length + vs.length ≤ cap) := by omega
  have h2 : ¬ (Builtin.nextslicecap (us.length + vs.length) cap * bytes > 2 ^ 48) := by
    have := Nat.mul_le_mul_right bytes (nextcap_le hgrow)
    have e48 : (2 : Nat) ^ 48 = 281474976710656 := by decide
    omega
  have h3 : ¬ (((us.length + vs.length : Nat) : Int) > IntKind.i64.max ∧ (False ∨ bytes = 0)) := by
    intro hh
    have := hh.1
    simp [IntKind.max, IntKind.signed, IntKind.bits] at this
    omega
  have hcells : ∀ b o, M b o → w.drew.cell? ⟨b, o, none⟩ = w.cell? ⟨b, o, none⟩ := fun _ _ _ => rfl
  have hfc := firstCells_sl (P := P) hsl w.drew hcells
  have hfy := hc w.drew hcells
  have hzt : (match (TypeDesc.slice e) with | .int _ => true | _ => false) = false := rfl
  unfold Builtin.append_
  simp only [List.getElem?_toArray, List.getElem?_cons_zero, List.getElem?_cons_succ, Sem.run_bind, run_underlying (elemT_under he), run_underlying (elemT_under he'), Result.andThen_ok, run_sizeOf hm, Sem.run_pure, Bool.false_eq_true, if_false, hvs, Sem.run_ite, if_neg h1,
    run_typeInfo hi, hib, if_neg h2, Bool.not_false, if_true]
  rw [if_neg h3]
  have hch : (choose q).run P w = .ok c w.drew := rfl
  simp only [show Question.appendCap (us.length + vs.length) cap e = q from rfl, hch, Result.andThen_ok, run_askRoom, hfc, hfy, hz1, newRow, Sem.run_bind, run_newObj, Sem.run_pure, World.alloc_eq, World.size_drew]
  congr 3
  apply Array.ext'
  simp

theorem app_builtin {o : Oper} {c : Call} {x y : Operand} {t t' : TypeId} (ho : o.op = .call c) (hc : c.callee = .builtin .append) (hx : c.args.toList = [x, y]) (ht : c.argTypes.toList = [t, t']) :
    execOp a.eval o = (do pure (.value (← Builtin.append_ #[t, t'] o.type #[a.eval x, a.eval y]))) := by
  have hargs : c.args = #[x, y] := by rw [← hx]
  have htys : c.argTypes = #[t, t'] := by rw [← ht]
  exact run_builtin ho hc (fun cs => by simp [builtin, hargs, htys])

/-- A new row that has come of an append. -/
theorem grow_row {t e t' ty : TypeId} {m bytes cap : Nat} {us vs : List Value} {ad : Option Addr} {y : Value} {es ys : List AV} {z : AV} (hst : St w M G H) (he : elemT P t = some e) (he' : elemT P t' = some e) (hm : sizeT P e = some m) (hby : bytesT P e = some bytes) (hz : zeroT P e = some z)
    (hzl : z.cells.length = m) (hm0 : 0 < m) (hes : VRs w M G es us) (hsl : SlOK w M m us ad cap) (hys : VRs w M G ys vs) (hysm : ∀ u ∈ vs, u.cells.size = m) (hyso : ∀ u ∈ vs, ∀ c ∈ u.cells.toList, c.oneCell' = true) (hvs : (Builtin.lenOf y).run P w = .ok vs.length w)
    (hc : ∀ w' : World, (∀ b o, M b o → w'.cell? ⟨b, o, none⟩ = w.cell? ⟨b, o, none⟩) → (Builtin.firstCells m vs.length y).run P w' = .ok (vs.flatMap (·.cells.toList)).toArray w')
    (hgrow : cap < us.length + vs.length) (hb : ((us.length + vs.length) + (us.length + vs.length) + 768) * bytes ≤ 281474976710656) (hbb : (us.length + vs.length) ≤ maxLen) :
    ∃ x w' M' G', Ext w M G w' M' G' ∧ St w' M' G' (H ++ [.app m (es ++ ys)]) ∧ VR w' M' G' (.row H.length (us.length + vs.length)) x ∧ (Builtin.append_ #[t, t'] ty #[.slice ad us.length cap, y]).run P w = .ok x w' := by
  obtain ⟨c, rest, h1, h2, h3, h4⟩ := run_append_grow (ty := ty) (ys := ys) he he' hm hby hz hzl hsl hvs hc hgrow hb hbb
  have hst1 : St w.drew M G H := hst.drew
  have hv : VRs w.drew M G (es ++ ys) (us ++ vs) := VRs_append (VRs.ext hes (Ext.drew hst)) (VRs.ext hys (Ext.drew hst))
  have hmm : ∀ u ∈ us ++ vs, u.cells.size = m := fun u hu => by
    rcases List.mem_append.1 hu with hu | hu
    · exact hsl.2.2.1 u hu
    · exact hysm u hu
  have hone : ∀ u ∈ us ++ vs, ∀ c ∈ u.cells.toList, c.oneCell' = true := fun u hu => by
    rcases List.mem_append.1 hu with hu | hu
    · exact SlOK_one hst hsl u hu
    · exact hyso u hu
  have hfl := flat_length hmm
  rw [List.flatMap_append] at hfl
  have hlen : (us ++ vs).length = us.length + vs.length := by simp
  have hcm : (us.length + vs.length) * m ≤ c * m := Nat.mul_le_mul_right m h1
  obtain ⟨g, g1, g2, g3, g4⟩ := push_app (t := e) (m := m) (c := c) (vs := us.flatMap (·.cells.toList) ++ vs.flatMap (·.cells.toList) ++ rest) hst1 hv hmm hone h2 (by rw [hlen]; exact h1)
    (by rw [List.length_append, hfl, h3, hlen, Nat.sub_mul]; omega)
    (by rw [List.flatMap_append, Nat.mul_comm, ← hfl, List.take_left])
  refine ⟨_, _, _, _, (Ext.drew hst).trans g4, g3, ⟨g, ?_, rfl⟩, ?_⟩
  · rw [← hst.len, getElem?_snoc]; simp
  · rw [h4, g1, g2]; rfl

theorem getElem?_set_snoc {i : Nat} {g g' g₁ g₂ : Gh} (hg : G[i]? = some g) {j : Nat} (hj : (G.set i g' ++ [g₁])[j]? = some g₂) : (j = G.length ∧ g₂ = g₁) ∨ (j = i ∧ g₂ = g') ∨ (j ≠ i ∧ j < G.length ∧ G[j]? = some g₂) := by
  have hi := (List.getElem?_eq_some_iff.1 hg).1
  rw [getElem?_snoc, List.length_set] at hj
  by_cases h1 : j < G.length
  · rw [if_pos h1] at hj
    by_cases h2 : i = j
    · subst h2; simp [hi] at hj; exact .inr (.inl ⟨rfl, hj.symm⟩)
    · rw [List.getElem?_set_ne h2] at hj; exact .inr (.inr ⟨Ne.symm h2, h1, hj⟩)
  · rw [if_neg h1] at hj
    by_cases h2 : j = G.length
    · rw [if_pos h2] at hj; simp at hj; exact .inl ⟨h2, hj.symm⟩
    · rw [if_neg h2] at hj; cases hj

/-- An append within the capacity. -/
theorem inplace_row {i m : Nat} {g : Gh} {es ys : List AV} {us vs : List Value} (hst : St w M G H) (hg : G[i]? = some g) (hH : H[i]? = some (.app m es)) (hys : VRs w M G ys vs) (hysm : ∀ u ∈ vs, u.cells.size = m)
    (hyso : ∀ u ∈ vs, ∀ c ∈ u.cells.toList, c.oneCell' = true) (hroom : es.length + vs.length ≤ g.cap) :
    ∃ w' M' G', Ext w M G w' M' G' ∧ St w' M' G' (H.set i .dead ++ [.app m (es ++ ys)]) ∧ VR w' M' G' (.row H.length (es.length + vs.length)) (.slice (some ⟨g.blk, 0, none⟩) (es.length + vs.length) g.cap) ∧
      (storeCells ⟨g.blk, es.length * m, none⟩ (vs.flatMap (·.cells.toList)) 0).run P w = .ok () w' := by
  obtain ⟨hfp, ⟨r1, r2, cells, tt, us, r3, r4, r5, r6, r7⟩, hM⟩ := hst.ok i g _ hg hH
  have hul := VRs_length r5
  have hyl := VRs_length hys
  have hi := (List.getElem?_eq_some_iff.1 hg).1
  have hflv := flat_length hysm
  have hflu := flat_length r6
  have hmul : m * es.length = es.length * m := Nat.mul_comm _ _
  have hcap : (es.length + vs.length) * m ≤ g.cap * m := Nat.mul_le_mul_right m hroom
  have hadd : (es.length + vs.length) * m = es.length * m + vs.length * m := Nat.add_mul _ _ _
  have hmul2 : m * (es.length + vs.length) = es.length * m + vs.length * m := by rw [Nat.mul_comm]; exact hadd
  obtain ⟨w', e1, e2, e3, e4, e5, e6, e7⟩ := run_storeCells (P := P) (b := g.blk) (o := es.length * m) (t := tt) (vs.flatMap (·.cells.toList)) 0 w cells r3 (by omega)
    (fun u hu => by obtain ⟨v, hv, hc⟩ := List.mem_flatMap.1 hu; exact hyso v hv u hc)
  simp only [Nat.add_zero] at e2
  rw [hflv, ← hmul, r7] at e2
  let g' : Gh := { g with fp := fun _ => False }
  let M' : Nat → Nat → Prop := fun b o => M b o ∨ (b = g.blk ∧ o < m * (es.length + vs.length))
  have hown : g.fp g.blk := (hfp _).2 rfl
  have hcell : ∀ o, o < m * (es.length + vs.length) → w'.cell? ⟨g.blk, o, none⟩ = (us.flatMap (·.cells.toList) ++ vs.flatMap (·.cells.toList))[o]? := fun o ho => by
    rw [cell_of_heap e2, ← List.append_assoc, List.getElem?_append_left (by rw [List.length_append, hflu, hflv, hul]; omega)]
  have hLe : Le w M w' M' := fun b o hm => by
    refine ⟨.inl hm, ?_⟩
    by_cases hb : b = g.blk
    · subst hb
      have ho := (hM o).1 hm
      rw [hcell o (by omega), List.getElem?_append_left (by rw [hflu, hul]; omega), cell_of_heap r3, ← r7, List.getElem?_take_of_lt ho]
    · exact World.cell?_of_block (w := w) (e7 b hb)
  have hcc : ∀ (j : Nat) (g₀ : Gh), G[j]? = some g₀ → ∃ g₁ : Gh, (G.set i g' ++ [g])[j]? = some g₁ ∧ g₁.core = g₀.core := fun j g₀ hj => by
    have hjl := (List.getElem?_eq_some_iff.1 hj).1
    rw [getElem?_snoc, List.length_set, if_pos hjl]
    by_cases hji : i = j
    · subst hji
      rw [hg] at hj; cases hj
      exact ⟨g', by simp [hi], rfl⟩
    · exact ⟨g₀, by rw [List.getElem?_set_ne hji]; exact hj, rfl⟩
  have hone : ∀ c ∈ us.flatMap (·.cells.toList) ++ vs.flatMap (·.cells.toList), c.oneCell' = true := fun c hc => by
    rcases List.mem_append.1 hc with hc | hc
    · obtain ⟨j, hj⟩ := List.mem_iff_getElem?.1 hc
      have hjl := (List.getElem?_eq_some_iff.1 hj).1
      rw [hflu, hul] at hjl
      refine hst.one g.blk j c ((hM j).2 (by omega)) ?_
      rw [cell_of_heap r3, ← hj, ← r7, List.getElem?_take_of_lt (by omega)]
    · obtain ⟨v, hv, hc⟩ := List.mem_flatMap.1 hc
      exact hyso v hv c hc
  have hst' : St w' M' (G.set i g' ++ [g]) (H.set i .dead ++ [.app m (es ++ ys)]) := by
    refine St_of hst (by simp [hst.len]) (fun j g₁ e₁ hg₁ he₁ => ?_) hcc (fun j k g₁ g₂ b h1 h2 h3 h4 => ?_) (fun j g₁ b h1 h2 => ?_) (fun b o hm => ?_) (fun b o v hm hv => ?_)
    · have hHl : H.length = G.length := hst.len.symm
      rcases getElem?_set_snoc hg hg₁ with ⟨hj, rfl⟩ | ⟨rfl, rfl⟩ | ⟨hji, hjl, hgj⟩
      · rw [getElem?_snoc, List.length_set, if_neg (by omega), if_pos (by omega)] at he₁
        simp only [Option.some.injEq] at he₁
        subst he₁
        refine .inr ⟨hfp, ⟨by simp; omega, r2, _, tt, us ++ vs, e2, ?_, VRs_append (VRs_mono hcc hLe r5) (VRs_mono hcc hLe hys), fun u hu => ?_, ?_⟩, fun o => ?_⟩
        · simp only [List.length_append, hflu, hflv, List.length_drop, r4, hul]; omega
        · rcases List.mem_append.1 hu with hu | hu
          · exact r6 u hu
          · exact hysm u hu
        · rw [List.length_append, ← hyl, List.flatMap_append, ← List.append_assoc, List.take_left' (by rw [List.length_append, hflu, hflv, hul]; omega)]
        · rw [List.length_append, ← hyl]
          constructor
          · rintro (h | ⟨_, h⟩)
            · have := (hM o).1 h; omega
            · exact h
          · exact fun h => .inr ⟨rfl, h⟩
      · rw [getElem?_snoc, List.length_set, if_pos (by omega), List.getElem?_set_self (by omega)] at he₁
        simp only [Option.some.injEq] at he₁
        subst he₁
        exact .inr (fun b hb => hb)
      · rw [getElem?_snoc, List.length_set, if_pos (by omega), List.getElem?_set_ne (Ne.symm hji)] at he₁
        have hnot : ∀ b, g₁.fp b → b ≠ g.blk := fun b hb hc => hji (hst.dj j i g₁ g b hgj hg hb (hc ▸ hown))
        refine .inl ⟨hgj, he₁, fun b hb => e7 b (hnot b hb), hLe, fun b o hb hm => ?_, by omega⟩
        rcases hm with hm | ⟨rfl, _⟩
        · exact hm
        · exact absurd rfl (hnot _ hb)
    · have q1 : ∀ (j : Nat) (g₁ : Gh) (b : Nat), (G.set i g' ++ [g])[j]? = some g₁ → g₁.fp b → (j = G.length ∧ g.fp b) ∨ (j ≠ i ∧ j < G.length ∧ G[j]? = some g₁) := fun j g₁ b hj hb => by
        rcases getElem?_set_snoc hg hj with ⟨hjj, rfl⟩ | ⟨rfl, rfl⟩ | ⟨hji, hjl, hgj⟩
        · exact .inl ⟨hjj, hb⟩
        · exact hb.elim
        · exact .inr ⟨hji, hjl, hgj⟩
      rcases q1 j g₁ b h1 h3 with ⟨p1, p2⟩ | ⟨p1, p2, p3⟩ <;> rcases q1 k g₂ b h2 h4 with ⟨s1, s2⟩ | ⟨s1, s2, s3⟩
      · omega
      · exact absurd (hst.dj _ _ _ _ b s3 hg h4 p2) s1
      · exact absurd (hst.dj _ _ _ _ b p3 hg h3 s2) p1
      · exact hst.dj _ _ _ _ b p3 s3 h3 h4
    · rcases getElem?_set_snoc hg h1 with ⟨hj, rfl⟩ | ⟨rfl, rfl⟩ | ⟨hji, hjl, hgj⟩
      · have := hst.lt _ _ b hg h2; omega
      · exact h2.elim
      · have := hst.lt _ _ b hgj h2; omega
    · rcases hm with hm | ⟨rfl, _⟩
      · have := hst.Mlt b o hm; omega
      · have := hst.lt _ _ _ hg hown; omega
    · by_cases hb : b = g.blk
      · have ho : o < m * (es.length + vs.length) := by
          rcases hm with hm | ⟨_, h⟩
          · subst hb; have := (hM o).1 hm; omega
          · exact h
        subst hb
        rw [hcell o ho] at hv
        exact hone v (List.mem_of_getElem? hv)
      · rcases hm with hm | ⟨h, _⟩
        · exact hst.one b o v hm ((hLe b o hm).2 ▸ hv)
        · exact absurd h hb
  refine ⟨w', M', _, ⟨e3, e4, e5, by omega, hcc, hLe, fun b hb ho => e7 b (fun hc => ho ⟨i, g, hg, hc ▸ hown⟩), fun b ⟨j, g₁, hj, hb⟩ => ?_, fun b o hm => ?_⟩, hst', ⟨g, ?_, rfl⟩, e1⟩
  · rcases getElem?_set_snoc hg hj with ⟨hj, rfl⟩ | ⟨rfl, rfl⟩ | ⟨hji, hjl, hgj⟩
    · exact .inl ⟨i, _, hg, hb⟩
    · exact hb.elim
    · exact .inl ⟨j, _, hgj, hb⟩
  · rcases hm with hm | ⟨rfl, _⟩
    · exact .inl hm
    · exact .inr (.inl ⟨i, g, hg, hown⟩)
  · rw [getElem?_snoc, List.length_set, hst.len, if_neg (by omega), if_pos rfl]

theorem le_maxLen_of {a b : Nat} (hb : 0 < b) (h : (a + a + 768) * b ≤ 281474976710656) : a ≤ maxLen := by
  have := Nat.le_mul_of_pos_right (a + a + 768) hb
  unfold maxLen; omega

theorem do_app {o : Oper} {c : Call} {x y : Operand} {x' y' : Opd} {t t' e : TypeId} {m bytes : Nat} {z : AV} {cc : Co} (ho : o.op = .call c) (hc : c.callee = .builtin .append) (hx : c.args.toList = [x, y]) (ht : c.argTypes.toList = [t, t'])
    (he : elemT P t = some e) (he' : elemT P t' = some e) (hm : sizeT P e = some m) (hby : bytesT P e = some bytes) (hz : zeroT P e = some z) (hzl : z.cells.length = m) (hm0 : 0 < m) (hb0 : 0 < bytes) (hx' : cO x = some x') (hy' : cO y = some y')
    (hst : St w M G H) (hr : RelF w M G n af a) (h : (evi af H (.app m z bytes cc x' y')).bnd fun p => k p.1 p.2) : Do P w M G a o k := by
  refine Do.of (app_builtin ho hc hx ht) ?_
  have hvx := cO_sound hx' hr
  have hvy := cO_sound hy' hr
  simp only [evi] at h
  generalize gt af x' = p at *
  generalize gt af y' = q at *
  generalize a.eval x = u at *
  generalize a.eval y = v at *
  have hsplit : ∃ ys, Src P w M G m ys v ∧ (appTo m bytes H ys p).bnd fun p => k p.1 p.2 := by
    unfold appv at h
    split at h
    · rename_i ys hq
      obtain ⟨ys', h1, h2⟩ := appArg_sound (P := P) (kk := fun l => l = ys) hst hvy (by rw [hq]; rfl)
      subst h1
      exact ⟨_, h2, h⟩
    · rename_i pp ys hq
      simp only [Rs.bnd] at h
      obtain ⟨ys', h1, h2⟩ := appArg_sound (P := P) (kk := fun l => l = ys) hst hvy (by rw [hq]; exact ⟨h.1, rfl⟩)
      subst h1
      exact ⟨_, h2, h.2⟩
    · simp only [Rs.bnd] at h
  clear h
  obtain ⟨ys, ⟨vs, hys, hysm, hyso, hlen, hfc⟩, h⟩ := hsplit
  have hyl := VRs_length hys
  cases p <;> try (simp only [appTo, Rs.bnd] at h)
  case nils =>
    simp only [VR] at hvx; subst hvx
    by_cases h0 : ys.length = 0
    · rw [if_pos h0] at h
      simp only [Rs.bnd] at h
      have hv0 : vs.length = 0 := by omega
      refine ⟨_, _, .slice none 0 0, w, M, G, h, Ext.refl _ _ _, hst, rfl, ?_⟩
      rw [hv0] at hlen
      have hf := hfc w (fun _ _ _ => rfl)
      rw [hv0] at hf
      unfold Builtin.append_
      simp [run_underlying (elemT_under he), run_underlying (elemT_under he'), run_sizeOf hm, hlen, hf]
    · rw [if_neg h0] at h
      simp only [Rs.bnd] at h
      obtain ⟨hb, h⟩ := h
      have hsl : SlOK w M m [] none 0 := ⟨Nat.le_refl _, by simp [maxLen], by simp, rfl⟩
      obtain ⟨xx, w', M', G', f1, f2, f3, f4⟩ := grow_row (ty := o.type) (es := []) (us := []) hst he he' hm hby hz hzl hm0 rfl hsl hys hysm hyso hlen hfc (by simp; omega) (by simpa [hyl, capOK] using hb) (by simp; exact le_maxLen_of hb0 (by rw [hyl]; exact hb))
      exact ⟨_, _, xx, w', M', G', h, f1, by simpa using f2, by simpa [hyl] using f3, f4⟩
  case lit m' es =>
    obtain ⟨ad, us, h1, h2, rfl⟩ := hvx
    have hul := VRs_length h1
    by_cases h0 : ys.length = 0
    · rw [if_pos h0] at h
      simp only [Rs.bnd] at h
      obtain ⟨rfl, h⟩ := h
      have hv0 : vs.length = 0 := by omega
      have hvn : vs = [] := List.eq_nil_of_length_eq_zero hv0
      subst hvn
      refine ⟨_, _, .slice ad us.length us.length, w, M, G, h, Ext.refl _ _ _, hst, ⟨ad, us, h1, h2, rfl⟩, ?_⟩
      have hf := hfc w (fun _ _ _ => rfl)
      simp only [List.length_nil] at hlen hf
      unfold Builtin.append_
      cases ad with
      | none => simp [run_underlying (elemT_under he), run_underlying (elemT_under he'), run_sizeOf hm, hlen, hf]
      | some d => simp [run_underlying (elemT_under he), run_underlying (elemT_under he'), run_sizeOf hm, hlen, hf, storeCells]
    · rw [if_neg h0] at h
      simp only [Rs.bnd] at h
      obtain ⟨⟨rfl, hb⟩, h⟩ := h
      obtain ⟨xx, w', M', G', f1, f2, f3, f4⟩ := grow_row (ty := o.type) hst he he' hm hby hz hzl hm0 h1 h2 hys hysm hyso hlen hfc (by omega) (by rw [hul, hyl]; exact hb) (by rw [hul, hyl]; exact le_maxLen_of hb0 hb)
      exact ⟨_, _, xx, w', M', G', h, f1, f2, by rw [hul, hyl] at f3; exact f3, f4⟩
  case row i len =>
    cases hen : ent H i <;> simp only [hen, Rs.bnd] at h
    rename_i m' es
    obtain ⟨⟨rfl, hel, hb⟩, h⟩ := h
    obtain ⟨g, hg, rfl⟩ := hvx
    have hH := ent_get hen (by simp)
    obtain ⟨hfp, hrow, hM⟩ := hst.ok i g _ hg hH
    obtain ⟨us, h1, h2, h3⟩ := row_SlOK hrow hM hel
    have hbb : us.length + vs.length ≤ maxLen := by rw [h3, hyl]; exact le_maxLen_of hb0 hb
    -- the entry is given up
    let g' : Gh := { g with fp := fun _ => False }
    have hst0 : St w M (G.set i g') (H.set i .dead) := St_set hst hg rfl (fun _ h => h.elim) (Nat.le_refl _) (fun _ _ _ => rfl) (Le.refl w M) (fun _ _ h => .inl h) (fun b hb => hb)
    have hext0 : Ext w M G w M (G.set i g') := Ext_set hst hg rfl (fun _ h => h.elim) rfl rfl rfl (Nat.le_refl _) (fun _ _ _ => rfl) (Le.refl w M) (fun _ _ h => .inl h)
    subst h3
    by_cases hroom : us.length + vs.length ≤ g.cap
    · -- within the capacity
      obtain ⟨w', M', G', f1, f2, f3, f4⟩ := inplace_row (P := P) (us := us) hst hg hH hys hysm hyso (by rw [hel]; exact hroom)
      rw [hel, hyl] at f3
      refine ⟨_, _, _, w', M', G', h, f1, f2, f3, ?_⟩
      have hf := hfc w (fun _ _ _ => rfl)
      unfold Builtin.append_
      rw [hel] at f4
      have had : (⟨g.blk, 0, none⟩ : Addr).add (us.length * m') = ⟨g.blk, us.length * m', none⟩ := by rw [addr_add]; simp
      rw [hyl] at hlen hf hroom
      simp [run_underlying (elemT_under he), run_underlying (elemT_under he'), run_sizeOf hm, hlen, hf, hroom, had, f4]
    · obtain ⟨xx, w', M', G', f1, f2, f3, f4⟩ := grow_row (ty := o.type) hst0 he he' hm hby hz hzl hm0 (VRs.ext h1 hext0) h2 (VRs.ext hys hext0) hysm hyso hlen hfc (by omega) (by rw [hyl]; exact hb) hbb
      rw [List.length_set] at f3
      rw [hyl] at f3
      exact ⟨_, _, xx, w', M', G', h, hext0.trans f1, f2, f3, f4⟩
end
end Go.V

/-
  The value logic, part k: every operation that is no call does what its evaluation says.
-/
namespace Go.V
open Go Go.RowKit
set_option linter.unusedVariables false
set_option linter.unusedSimpArgs false

section
variable {P : Program} {w : World} {M : Nat → Nat → Prop} {G : List Gh} {H : List Ent} {n : Nat} {af : AF} {a : Act} {k : AV → List Ent → Prop}

theorem do_v {o : Oper} {i : IV} (hst : St w M G H) (h : (evi af H (.v i)).bnd fun p => k p.1 p.2) (hy : ∀ k' : AV → Prop, (evv af H i).bnd k' → Yd P w M G a o k') : Do P w M G a o k := by
  simp only [evi] at h
  rw [bnd_map] at h
  exact Do.of_yd hst (hy _ h) (fun v hv => hv)

theorem cCall_sound {o : Oper} {c : Call} {i : I} (ho : o.op = .call c) (hc : cCall P c o.type = some i) (hni : ∀ f l, i ≠ .call f l) (hst : St w M G H) (hr : RelF w M G n af a) (h : (evi af H i).bnd fun p => k p.1 p.2) : Do P w M G a o k := by
  unfold cCall at hc
  split at hc
  · split at hc
    · simp only [Option.some.injEq] at hc; subst hc; exact absurd rfl (hni _ _)
    · cases hc
  · cases hc
  · rename_i b hb
    split at hc
    · rename_i x t hx ht
      split at hc
      · rename_i y hu hy
        simp only [Option.some.injEq] at hc; subst hc
        exact do_v hst h fun k' h' => yd_len ho hb hx ht (by simpa using hu) hy hr h'
      · rename_i e y hu hy
        simp only [Option.some.injEq] at hc; subst hc
        exact do_v hst h fun k' h' => yd_len ho hb hx ht (by simpa using ⟨e, hu⟩) hy hr h'
      · cases hc
    · rename_i x y ts hx
      split at hc
      · rename_i u v hu hv
        simp only [Option.some.injEq] at hc; subst hc
        exact do_v hst h fun k' h' => yd_mm (big := true) ho hb hx hu hv hr h'
      · cases hc
    · rename_i x y ts hx
      split at hc
      · rename_i u v hu hv
        simp only [Option.some.injEq] at hc; subst hc
        exact do_v hst h fun k' h' => yd_mm (big := false) ho hb hx hu hv hr h'
      · cases hc
    · rename_i x y t t' hx ht
      split at hc
      · rename_i e e' u v he he' hu hv
        split at hc
        · rename_i m bytes z hm hby hz
          split at hc
          · rename_i hcond
            obtain ⟨rfl, hzl, hm0, hza, hb0⟩ := hcond
            simp only [Option.some.injEq] at hc; subst hc
            exact do_app ho hb hx ht he he' hm hby hz hzl hm0 hb0 hu hv hst hr h
          · cases hc
        · cases hc
      · cases hc
    · cases hc

theorem cI_sound {o : Oper} {i : I} (hc : cI P o = some i) (hni : ∀ f l, i ≠ .call f l) (hst : St w M G H) (hr : RelF w M G n af a) (h : (evi af H i).bnd fun p => k p.1 p.2) : Do P w M G a o k := by
  unfold cI at hc
  split at hc
  · rename_i x ho
    obtain ⟨y, hy, rfl⟩ := Option.map_eq_some_iff.1 hc
    exact do_v hst h fun k' h' => yd_mov (.inl ho) hy hr h'
  · rename_i x ho
    obtain ⟨y, hy, rfl⟩ := Option.map_eq_some_iff.1 hc
    exact do_v hst h fun k' h' => yd_mov (.inr ho) hy hr h'
  · rename_i c x y ho
    split at hc
    · rename_i c' x' y' h1 h2 h3
      simp only [Option.some.injEq] at hc; subst hc
      exact do_v hst h fun k' h' => yd_pick ho h1 h2 h3 hr h'
    · cases hc
  · rename_i t ho
    split at hc
    · rename_i z hz
      simp only [Option.some.injEq] at hc; subst hc
      exact do_alo ho hz hst h
    · cases hc
  · rename_i t x ho
    obtain ⟨y, hy, rfl⟩ := Option.map_eq_some_iff.1 hc
    exact do_box ho hy hst hr h
  · rename_i t parts ho
    split at hc
    · rename_i zs l hz hl
      split at hc
      · rename_i hsz
        simp only [Option.some.injEq] at hc; subst hc
        exact do_v hst h fun k' h' => yd_bld ho hz hl hsz hr h'
      · cases hc
    · cases hc
  · rename_i t len parts ho
    split at hc
    · rename_i e he
      split at hc
      · rename_i m l hm hl
        split at hc
        · rename_i hcond
          obtain ⟨h1, h2, h3, h4⟩ := hcond
          simp only [Option.some.injEq] at hc; subst hc
          exact do_bsl ho he hm hl h1 h2 h3 h4 hst hr h
        · cases hc
      · cases hc
    · cases hc
  · rename_i t x ho
    split at hc
    · rename_i g m y hg hm hy
      simp only [Option.some.injEq] at hc; subst hc
      exact do_v hst h fun k' h' => yd_ld ho hg hm hy hst hr h'
    · cases hc
  · rename_i t x z ho
    split at hc
    · rename_i m y u hm hy hu
      split at hc
      · rename_i hm0
        simp only [Option.some.injEq] at hc; subst hc
        exact do_st ho hm hm0 hy hu hst hr h
      · cases hc
    · cases hc
  · rename_i x ho
    obtain ⟨y, hy, rfl⟩ := Option.map_eq_some_iff.1 hc
    exact do_v hst h fun k' h' => yd_nck ho hy hr h'
  · rename_i op t x y yt ho
    split at hc
    · rename_i x' y' hx hy
      split at hc
      · cases hc
      · rename_i hcond
        simp only [Option.some.injEq] at hc; subst hc
        refine do_v hst h fun k' h' => yd_bin ho hx hy (fun hif => ?_) hr h'
        cases hcc : (Region.isConst x || Region.isConst y) with
        | true => rfl
        | false => simp [hif, hcc] at hcond
    · cases hc
  · rename_i op t x ho
    obtain ⟨y, hy, rfl⟩ := Option.map_eq_some_iff.1 hc
    exact do_v hst h fun k' h' => yd_un ho hy hr h'
  · rename_i s d x ho
    split at hc
    · rename_i kk kk' y hs hd hy
      simp only [Option.some.injEq] at hc; subst hc
      exact do_v hst h fun k' h' => yd_cvi ho hs hd hy hr h'
    · rename_i y hs hd hy
      simp only [Option.some.injEq] at hc; subst hc
      exact do_v hst h fun k' h' => yd_cvs ho hs hd hy hr h'
    · cases hc
  · rename_i t x ho
    split at hc
    · cases hc
    · rename_i d y hd hu hy
      simp only [Option.some.injEq] at hc; subst hc
      exact do_v hst h fun k' h' => yd_mki ho hu (fun ms e => hd ms e) hy hst hr h'
    · cases hc
  · rename_i f first caps ho
    split at hc
    · rename_i l m hl hm
      simp only [Option.some.injEq] at hc; subst hc
      exact do_v hst h fun k' h' => yd_mfn ho hl hm hr h'
    · cases hc
  · rename_i t len cap ho
    split at hc
    · rename_i e l c he hl hcc
      split at hc
      · rename_i m bytes z hm hby hz
        split at hc
        · rename_i hcond
          obtain ⟨h1, h2, h3⟩ := hcond
          simp only [Option.some.injEq] at hc; subst hc
          exact do_mks ho he hm hby hz h1 h2 h3 hl hcc hst hr h
        · cases hc
      · cases hc
    · cases hc
  · rename_i t x lo hi mx ho
    split at hc
    · rename_i y l h' hu hy hl hh hmx
      simp only [Option.some.injEq] at hc; subst hc
      have hmx' : mx = none := by
        cases mx with
        | none => rfl
        | some z => simp [cOo] at hmx
      subst hmx'
      exact do_v hst h fun k' h' => yd_sls ho hu hy hl hh hr h'
    · rename_i e y l h' m' hu hy hl hh hmx
      obtain ⟨m, hm, rfl⟩ := Option.map_eq_some_iff.1 hc
      exact do_v hst h fun k' h' => yd_slv ho hu hm hy hl hh hmx hst hr h'
    · cases hc
  · rename_i t x f ho
    split at hc
    · rename_i fs y hu hy
      split at hc
      · rename_i fl hf
        split at hc
        · rename_i m hm
          split at hc
          · rename_i hm0
            simp only [Option.some.injEq] at hc; subst hc
            exact do_v hst h fun k' h' => yd_fad ho hu hf hm hm0 hy hr h'
          · cases hc
        · cases hc
      · cases hc
    · cases hc
  · rename_i t x f ho
    split at hc
    · rename_i fs y hu hy
      split at hc
      · rename_i fl hf
        split at hc
        · rename_i m g hm hg
          simp only [Option.some.injEq] at hc; subst hc
          exact do_v hst h fun k' h' => yd_fld ho hu hf hm hg hy hr h'
        · cases hc
      · cases hc
    · cases hc
  · rename_i t x i ho
    split at hc
    · rename_i e y j hu hy hj
      obtain ⟨m, hm, rfl⟩ := Option.map_eq_some_iff.1 hc
      exact do_v hst h fun k' h' => yd_iad ho hu hm hy hj hr h'
    · rename_i len e y j hu hy hj
      obtain ⟨m, hm, rfl⟩ := Option.map_eq_some_iff.1 hc
      exact do_v hst h fun k' h' => yd_aad ho hu hm hy hj hr h'
    · cases hc
  · rename_i t x i ho
    split at hc
    · rename_i y j hu hy hj
      simp only [Option.some.injEq] at hc; subst hc
      exact do_v hst h fun k' h' => yd_idx ho hu hy hj hr h'
    · rename_i len e y j hu hy hj
      split at hc
      · rename_i m g hm hg
        simp only [Option.some.injEq] at hc; subst hc
        exact do_v hst h fun k' h' => yd_ida ho hu hm hg hy hj hr h'
      · cases hc
    · cases hc
  · rename_i x st t ho
    split at hc
    · cases hc
    · rename_i d z y hd hu hz hy
      simp only [Option.some.injEq] at hc; subst hc
      exact do_v hst h fun k' h' => yd_tya ho hu (fun ms e => hd ms e) hz hy hr h'
    · cases hc
  · rename_i x i ho
    obtain ⟨y, hy, rfl⟩ := Option.map_eq_some_iff.1 hc
    exact do_v hst h fun k' h' => yd_ext ho hy hr h'
  · rename_i c ho
    exact cCall_sound ho hc hni hst hr h
  · cases hc
end
end Go.V
