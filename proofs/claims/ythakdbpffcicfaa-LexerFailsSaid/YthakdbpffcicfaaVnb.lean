
/-
  The value logic, part n, continued: a function value called out of a greater state; loops over functions: the record of a loop is laid, written, struck off.
-/
import Derived.Test.YthakdbpffcicfaaVn
import Derived.RangeFuncRecord
namespace Go.V
open Go Go.RowKit
set_option linter.unusedVariables false
set_option linter.unusedSimpArgs false

section
variable {P : Program} {H H0 : List Ent}

theorem sel_front {sel : List Nat} {w : World} {M : Nat → Nat → Prop} {G : List Gh} (hn : sel.Nodup) (hlt : ∀ i ∈ sel, i < H.length) (hl : sel.length = H0.length)
    (hent : ∀ (j : Nat) (e : Ent), H0[j]? = some e → e = .dead ∨ (e.bd H0.length = true ∧ H[sg sel j]? = some (e.ren (sg sel)))) (hst : St w M G H) :
    ∃ G0, St w M G0 H0 ∧ ∀ (j : Nat) (g₀ : Gh), G0[j]? = some g₀ → ∃ g : Gh, G[sg sel j]? = some g ∧ g₀.core = g.core ∧ ∀ b, g₀.fp b → g.fp b := by
  have hinj : ∀ i j, i < H0.length → j < H0.length → sg sel i = sg sel j → i = j := fun i j hi hj he => by
    have h1 := sg_lt (sel := sel) (j := i) (by omega)
    have h2 := sg_lt (sel := sel) (j := j) (by omega)
    rw [he, ← h2] at h1
    exact (List.getElem?_inj (by omega) hn).1 h1
  have key := wk_sound' (n := 0) (m := 0) (σ := sg sel) (af := ⟨[], []⟩) (af' := ⟨[], []⟩) (a := { tmps := #[], defers := [] }) hst ⟨rfl, rfl, fun t => trivial⟩
    ⟨fun i hi => by omega, Nat.zero_le _, hinj, hent, fun j hj => hlt _ (List.mem_of_getElem? (sg_lt (by omega))), fun t => .inl rfl, fun d hd => (by cases hd), rfl⟩
  refine ⟨_, key.2.1, fun j g₀ hg => ?_⟩
  have hj := (List.getElem?_eq_some_iff.1 hg).1
  rw [key.2.1.len] at hj
  have hlt' := hlt _ (List.mem_of_getElem? (sg_lt (sel := sel) (j := j) (by omega)))
  rw [← hst.len] at hlt'
  have hq := wkG_get (sg sel) G H0 0 j _ (List.getElem?_eq_getElem hj)
  rw [Nat.zero_add] at hq
  rw [hq] at hg
  have hgd : G.getD (sg sel j) {} = G[sg sel j] := by rw [List.getD_eq_getElem?_getD, List.getElem?_eq_getElem hlt']; rfl
  rw [hgd] at hg
  simp only [Option.some.injEq] at hg
  refine ⟨G[sg sel j], List.getElem?_eq_getElem hlt', ?_, fun b hb => ?_⟩
  · rw [← hg]; split <;> rfl
  · rw [← hg] at hb
    split at hb
    · exact hb.elim
    · exact hb

/-- A function value called out of a greater state. -/
theorem vapp_sel (sel : List Nat) {fv0 : AV} {args0 : List AV} {Q Q' : List Ent → VO → Prop} (h : VApp P H0 fv0 args0 Q) (hn : sel.Nodup) (hlt : ∀ i ∈ sel, i < H.length) (hl : sel.length = H0.length)
    (hent : ∀ (j : Nat) (e : Ent), H0[j]? = some e → e = .dead ∨ (e.bd H0.length = true ∧ H[sg sel j]? = some (e.ren (sg sel)))) (hfv : fv0.bd H0.length = true) (hargs : AV.bds H0.length args0 = true)
    (hQ : ∀ H1 o, Q H1 o → Q' (setAll H sel ((H1.take sel.length).map (Ent.ren (sg' sel H.length))) ++ (H1.drop sel.length).map (Ent.ren (sg' sel H.length))) (o.ren (sg' sel H.length))) : VApp P H (fv0.ren (sg sel)) (AV.rens (sg sel) args0) Q' := by
  intro w M G x vs hst hf hv
  obtain ⟨G0, hst0, hget⟩ := sel_front hn hlt hl hent hst
  have hcore : ∀ (i : Nat) (g : Gh), i < H0.length → G[sg sel i]? = some g → ∃ g' : Gh, G0[i]? = some g' ∧ g'.core = g.core := fun i g hi hg => by
    have hi' : i < G0.length := by rw [hst0.len]; exact hi
    obtain ⟨g', q1, q2, _⟩ := hget i _ (List.getElem?_eq_getElem hi')
    rw [hg] at q1
    simp only [Option.some.injEq] at q1; subst q1
    exact ⟨_, List.getElem?_eq_getElem hi', q2⟩
  have hv0 : VRs w M G0 args0 vs := VRs_un hcore args0 vs hargs hv
  have hf0 : VR w M G0 fv0 x := VR_un hcore fv0 x hfv hf
  refine (h w M G0 x vs hst0 hf0 hv0).mono fun e w' ho => ?_
  have h0l : G0.length = sel.length := by rw [hst0.len, hl]
  cases e with
  | returned x =>
    obtain ⟨M', G1, H1, v, q1, q2, q3, q4⟩ := ho
    obtain ⟨G', r1, r2, r3⟩ := sel_back hn hlt hst h0l hget q2 q3
    exact ⟨M', G', _, _, hQ _ _ q1, r1, r2, r3 _ _ q4⟩
  | panicked c =>
    obtain ⟨M', G1, H1, v, x, q1, q2, q3, q4, q5⟩ := ho
    obtain ⟨G', r1, r2, r3⟩ := sel_back hn hlt hst h0l hget q2 q3
    exact ⟨M', G', _, _, x, hQ _ _ q1, r1, r2, r3 _ _ q4, q5⟩
  | outgrown => exact ho
end

/-! ### The record of a loop over a function -/

def LpD.rc (d : LpD) (vs : List Value) (cap : Nat) : Loop := { state := d.st, pending := d.jmp, fn := d.fn, tmps := vs.toArray, params := d.ps, assign := d.asn, body := d.bd, defers := cap }

section
variable {P : Program} {w : World} {M : Nat → Nat → Prop} {G : List Gh} {H : List Ent} {i : Nat} {g : Gh} {d : LpD} {as : List AV}

theorem putObj_other {r b : Nat} {o : Obj} (h : b ≠ r) : (w.putObj r o).heap[b]? = w.heap[b]? := World.putObj_heap_other h

theorem lp_write (hst : St w M G H) (hg : G[i]? = some g) (hH : H[i]? = some (.lp d as)) (d' : LpD) (hfn : d'.fn = d.fn) (hps : d'.ps = d.ps) (ha : d'.asn = d.asn) (hb : d'.bd = d.bd) :
    ∃ vs, w.heap[g.blk]? = some (.loop (d.rc vs g.cap)) ∧ VRs w M G as vs ∧ St (w.putObj g.blk (.loop (d'.rc vs g.cap))) M G (H.set i (.lp d' as)) ∧ Ext w M G (w.putObj g.blk (.loop (d'.rc vs g.cap))) M G := by
  obtain ⟨h1, ⟨vs, h2, h3⟩, h4, h5, h6, h7⟩ := hst.ok i g _ hg hH
  have hne : g.cap ≠ g.blk := fun e => by rw [e] at h4; rw [h4] at h2; cases h2
  have hlt : g.blk < w.heap.size := hst.lt i g _ hg ((h1 _).2 (.inl rfl))
  have hle : Le w M (w.putObj g.blk (.loop (d'.rc vs g.cap))) M := fun b o hm => ⟨hm, World.cell?_of_block (putObj_other fun e => h6 o (e ▸ hm))⟩
  have hext : Ext w M G (w.putObj g.blk (.loop (d'.rc vs g.cap))) M G := ⟨rfl, rfl, rfl, by simp, fun i g h => ⟨g, h, rfl⟩, hle, fun b hb hn => putObj_other fun e => hn ⟨i, g, hg, (h1 _).2 (.inl e)⟩, fun b hb => .inl hb, fun b o hm => .inl hm⟩
  refine ⟨vs, h2, h3, ?_, hext⟩
  have := St_set (w' := w.putObj g.blk (.loop (d'.rc vs g.cap))) (M' := M) (g' := g) (e := .lp d' as) hst hg rfl (fun _ h => h) (by simp) (fun b hb hn => putObj_other fun e => hn ((h1 _).2 (.inl e))) hle (fun b o h => .inl h)
    (by
      rw [set_self _ _ _ hg]
      refine ⟨h1, ⟨vs, ?_, h3.ext hext⟩, ?_, h5, h6, h7⟩
      · exact World.putObj_heap_same hlt
      · rw [putObj_other hne]; exact h4)
  rwa [set_self _ _ _ hg] at this

theorem lp_kill (hst : St w M G H) (hg : G[i]? = some g) (hH : H[i]? = some (.lp d as)) :
    ∃ G', w.heap[g.cap]? = some (.deferred (some [])) ∧ St (w.putObj g.cap (.deferred none)) M G' (H.set i .dead) ∧ Ext w M G (w.putObj g.cap (.deferred none)) M G' := by
  obtain ⟨h1, ⟨vs, h2, h3⟩, h4, h5, h6, h7⟩ := hst.ok i g _ hg hH
  have hle : Le w M (w.putObj g.cap (.deferred none)) M := fun b o hm => ⟨hm, World.cell?_of_block (putObj_other fun e => h7 o (e ▸ hm))⟩
  have hold : ∀ b, b < w.heap.size → ¬ g.fp b → (w.putObj g.cap (.deferred none)).heap[b]? = w.heap[b]? := fun b hb hn => putObj_other fun e => hn ((h1 _).2 (.inr e))
  have hi := (List.getElem?_eq_some_iff.1 hg).1
  refine ⟨G.set i { g with fp := fun _ => False }, h4, St_set hst hg rfl (fun _ h => h.elim) (by simp) hold hle (fun b o h => .inl h) (fun b hb => hb), ⟨rfl, rfl, rfl, by simp, fun j g₀ hj => ?_, hle, fun b hb hn => hold b hb (fun h => hn ⟨i, g, hg, h⟩), fun b ⟨j, g₁, hj, hb⟩ => ?_, fun b o hm => .inl hm⟩⟩
  · by_cases hji : i = j
    · subst hji
      rw [hg] at hj; cases hj
      exact ⟨{ g with fp := fun _ => False }, by simp [hi], rfl⟩
    · exact ⟨g₀, by rw [List.getElem?_set_ne hji]; exact hj, rfl⟩
  · by_cases hji : i = j
    · subst hji; simp [hi] at hj; subst hj; exact hb.elim
    · rw [List.getElem?_set_ne hji] at hj; exact .inl ⟨j, g₁, hj, hb⟩

theorem ent_lp (h : ent H i = .lp d as) : H[i]? = some (.lp d as) := ent_get h (by simp)
end

/-- All the temporaries. -/
def tmAll (n : Nat) (tm : List (Nat × AV)) : List AV := (List.range n).map (get tm)

/-- The function that is ranged over has ended: what comes next. -/
def ranq (Q : VE → AF → List Ent → Prop) (af : AF) (k : Nat) (H : List Ent) : VO → Prop
  | .val _ => match ent H k with
    | .lp ⟨.ready, none, fn, ps, a, b⟩ as => Q .nrm ⟨af.tm, .mark k :: af.dl⟩ (H.set k (.lp ⟨.exhausted, none, fn, ps, a, b⟩ as))
    | .lp ⟨.done, some .ret, fn, ps, a, b⟩ as => Q .ret ⟨af.tm, .mark k :: af.dl⟩ (H.set k (.lp ⟨.exhausted, some .ret, fn, ps, a, b⟩ as))
    | .lp ⟨.done, some (.exit id), fn, ps, a, b⟩ as => Q (.ext id) ⟨af.tm, .mark k :: af.dl⟩ (H.set k (.lp ⟨.exhausted, some (.exit id), fn, ps, a, b⟩ as))
    | _ => False
  | .pan v => Q (.pan v) ⟨af.tm, .mark k :: af.dl⟩ H

section
variable {P : Program} {n m : Nat} {Q : VE → AF → List Ent → Prop} {af : AF} {H : List Ent} {a b : IC}

theorem vrs_tmAll {w : World} {M : Nat → Nat → Prop} {G : List Gh} {act : Act} (hr : RelF w M G n af act) : VRs w M G (tmAll n af.tm) act.tmps.toList := by
  have key : ∀ (l : List Nat), VRs w M G (l.map (get af.tm)) (l.map fun t => act.tmps.getD t undef) := by
    intro l
    induction l with
    | nil => rfl
    | cons t r ih => exact ⟨_, _, rfl, hr.rd t, ih⟩
  have h := key (List.range n)
  have he : ((List.range n).map fun t => act.tmps.getD t undef) = act.tmps.toList := by
    have hs := hr.size
    apply List.ext_getElem
    · simp [hs]
    · intro j h1 h2
      simp only [List.length_map, List.length_range] at h1
      simp only [List.getElem_map, List.getElem_range, Array.getElem_toList]
      rw [Array.getD_eq_getD_getElem?, Array.getElem?_eq_getElem (by omega)]; rfl
  rw [he] at h
  exact h

/-- A loop over a function. -/
theorem vi_rng {g : Opd} {ps : List Nat} {f : FuncId} {first caps : List AV} (hg : gt af g = .fn f first caps) (hm : m ≤ H.length)
    (h : ∀ (fn : FuncId) (asn bd : Code), cCode P n asn = some a → cCode P n bd = some b →
      VCalls P f (H ++ [.lp ⟨.ready, none, fn, ps.toArray, asn, bd⟩ (tmAll n af.tm)]) (first ++ [.opq H.length] ++ caps) (ranq Q af H.length)) : VI P none n m (.rng g ps a b) Q af H := by
  intro c hc
  cases c <;> simp only [cCode] at hc
  case rangeFunc g' ps' asn bd =>
    split at hc
    · rename_i z x y hz hx hy
      simp only [Option.some.injEq, IC.rng.injEq] at hc
      obtain ⟨rfl, rfl, rfl, rfl⟩ := hc
      intro w M G act hst hr
      refine wpIn_rangeFunc fun fn _ => ?_
      have hcall := h fn asn bd hx hy
      rw [Array.toArray_toList] at hcall
      -- the record
      obtain ⟨w₁, henter, hh, hos, htp, hou⟩ : ∃ w₁ : World, (Instr.enterLoop fn act.tmps ps' asn bd none).run P w = .ok (w.heap.size + 1, [{ target := .collected w.heap.size, args := #[] }]) w₁ ∧
          w₁.heap = (w.heap.push (.deferred (some []))).push (.loop { state := .ready, pending := none, fn, tmps := act.tmps, params := ps', assign := asn, body := bd, defers := w.heap.size }) ∧ w₁.os = w.os ∧ w₁.tape = w.tape ∧ w₁.output = w.output :=
        ⟨_, run_enterLoop_outer (P := P) (w := w) fn act.tmps ps' asn bd, rfl, rfl, rfl, rfl⟩
      obtain ⟨gh, hgb, hgc, hgv, hgf⟩ : ∃ gh : Gh, gh.blk = w.heap.size + 1 ∧ gh.cap = w.heap.size ∧ gh.val = .func (.yield (w.heap.size + 1)) #[] #[] ∧ ∀ b, gh.fp b ↔ b = w.heap.size + 1 ∨ b = w.heap.size :=
        ⟨{ blk := w.heap.size + 1, cap := w.heap.size, val := .func (.yield (w.heap.size + 1)) #[] #[], fp := fun b => b = w.heap.size + 1 ∨ b = w.heap.size }, rfl, rfl, rfl, fun _ => Iff.rfl⟩
      have hsz : w₁.heap.size = w.heap.size + 2 := by rw [hh]; simp
      have hold : ∀ b, b < w.heap.size → w₁.heap[b]? = w.heap[b]? := fun b hb => by
        rw [hh, Array.getElem?_push, if_neg (by simp; omega), Array.getElem?_push, if_neg (by omega)]
      have h0 : w₁.heap[w.heap.size]? = some (.deferred (some [])) := by rw [hh, Array.getElem?_push, if_neg (by simp), Array.getElem?_push, if_pos rfl]
      have h1 : w₁.heap[w.heap.size + 1]? = some (.loop { state := .ready, pending := none, fn, tmps := act.tmps, params := ps', assign := asn, body := bd, defers := w.heap.size }) := by rw [hh, Array.getElem?_push, if_pos (by simp)]
      have hext : Ext w M G w₁ M (G ++ [gh]) := Ext_push (w' := w₁) hst hos htp hou (by omega) hold (fun _ _ h => h) (fun _ _ h => .inl h) (fun b hb => by rcases (hgf b).1 hb with rfl | rfl <;> omega)
      have hst₁ : St w₁ M (G ++ [gh]) (H ++ [.lp ⟨.ready, none, fn, ps', asn, bd⟩ (tmAll n af.tm)]) :=
        St_push hst (by omega) hold (fun _ _ h => h) (fun _ _ h => .inl h) (fun b o hm => by have := hst.Mlt b o hm; omega) (fun b hb => by rcases (hgf b).1 hb with rfl | rfl <;> omega)
          ⟨fun b => by rw [hgf, hgb, hgc], ⟨act.tmps.toList, by rw [hgb, h1, hgc, Array.toArray_toList], (vrs_tmAll hr).ext hext⟩, by rw [hgc]; exact h0, by rw [hgv, hgb], fun o hm => by have := hst.Mlt _ o hm; omega, fun o hm => by have := hst.Mlt _ o hm; omega⟩
      have hgl : (G ++ [gh])[H.length]? = some gh := by rw [← hst.len]; simp
      -- the function
      have hfv := cO_sound hz hr
      rw [hg] at hfv
      obtain ⟨xs, ys, hx1, hy1, hfe⟩ := hfv
      have hargs : VRs w₁ M (G ++ [gh]) (first ++ [.opq H.length] ++ caps) (xs ++ [.func (.yield (w.heap.size + 1)) #[] #[]] ++ ys) :=
        VRs_append (VRs_append (hx1.ext hext) ⟨_, [], rfl, ⟨gh, hgl, hgv.symm, by rw [hgv]; rfl⟩, rfl⟩) (hy1.ext hext)
      have hc2 := hcall.2 w₁ M (G ++ [gh]) _ hst₁ hargs
      refine ⟨w.heap.size + 1, [{ target := .collected w.heap.size, args := #[] }], w₁, { target := .fn (.func f) ys.toArray, args := xs.toArray ++ #[.func (.yield (w.heap.size + 1)) #[] #[]] }, w₁, f,
        (xs ++ [Value.func (.yield (w.heap.size + 1)) #[] #[]] ++ ys).toArray, w₁, henter, ?_, fun _ _ => trivial, ?_, fun hh => (by cases hh), ?_⟩
      · simp only [resolve, rangeCall, hfe, List.map_toArray, List.map_cons, List.map_nil]
        rfl
      · simp only [invoke]
        rw [run_callFunc hcall.1]
        simp
      · apply callsIn_fw
        refine CallsIn.mono hc2 fun e w' ho => ?_
        cases e with
        | outgrown => exact ho.elim
        | panicked ch =>
          obtain ⟨M', G', H', v, x, q1, q2, q3, q4, rfl⟩ := ho
          have hx := hext.trans q2
          obtain ⟨gh', hg', hcore⟩ := q2.core _ _ hgl
          exact ⟨.pan v, _, M', G', H', q1, ⟨x, rfl, q4⟩, hx.toM, q3, hr.size, ⟨gh', act.defers, by rw [(core_eq hcore).2.1, hgc]; rfl, hg', DR_mono hx.core hx.le hr.defers⟩, fun t => (hr.rd t).ext hx⟩
        | returned x =>
          obtain ⟨M', G', H', v, q1, q2, q3, q4⟩ := ho
          obtain ⟨gh', hg', hcore⟩ := q2.core _ _ hgl
          obtain ⟨hcb, hcc, hcv⟩ := core_eq hcore
          have fin : ∀ {d : LpD} {as : List AV} {d' : LpD}, ent H' H.length = .lp d as → d.st ≠ .busy → d' = { d with st := .exhausted } → ∃ w₄, (Instr.endLoop (w.heap.size + 1)).run P w' = .ok d.jmp w₄ ∧
              ∀ ve e, Q ve ⟨af.tm, .mark H.length :: af.dl⟩ (H'.set H.length (.lp d' as)) → ExitR w₄ M' G' ve e → VPost Q n m w M G e { act with defers := [{ target := .collected w.heap.size, args := #[] }] ++ act.defers } w₄ := by
            intro d as d' he hb hd'
            subst hd'
            obtain ⟨vs, r1, r2, r3, r4⟩ := lp_write q3 hg' (ent_lp he) { d with st := .exhausted } rfl rfl rfl rfl
            have hx := (hext.trans q2).trans r4
            refine ⟨_, ?_, fun ve e hQ hE => ⟨ve, _, M', G', _, hQ, hE, hx.toM, r3, hr.size, ⟨gh', act.defers, ?_, hg', DR_mono hx.core hx.le hr.defers⟩, fun t => (hr.rd t).ext hx⟩⟩
            · have hblk : gh'.blk = w.heap.size + 1 := hcb.trans hgb
              rw [hblk] at r1 ⊢
              exact run_endLoop r1 hb
            · rw [hcc, hgc]; rfl
          simp only [ranq] at q1
          split at q1
          · rename_i fn' ps'' a' b' as' he
            obtain ⟨w₄, r1, r2⟩ := fin he (by simp) rfl
            exact ⟨none, w₄, r1, r2 .nrm .normal q1 rfl⟩
          · rename_i fn' ps'' a' b' as' he
            obtain ⟨w₄, r1, r2⟩ := fin he (by simp) rfl
            exact ⟨some .ret, w₄, r1, wpIn_ret (r2 .ret .ret q1 rfl)⟩
          · rename_i id fn' ps'' a' b' as' he
            obtain ⟨w₄, r1, r2⟩ := fin he (by simp) rfl
            exact ⟨some (.exit id), w₄, r1, wpIn_exit (r2 (.ext id) (.exit id) q1 rfl)⟩
          · exact q1.elim
    · cases hc
  all_goals (exfalso; (repeat' split at hc) <;> simp at hc)
end
end Go.V
