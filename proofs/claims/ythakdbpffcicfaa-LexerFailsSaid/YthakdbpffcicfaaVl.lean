
/-
  The value logic, part l: code: calls, lists of operations, and the rules of control.
-/
import Derived.Test.YthakdbpffcicfaaVk
import Derived.RangeFuncLeaves
import Derived.TacticsIn
namespace Go.V
open Go Go.RowKit
set_option linter.unusedVariables false
set_option linter.unusedSimpArgs false

/-- The fence of no bounds, in a round or not. -/
def fw (fr : Option Nat) : Fence := { Fence.wide with round := fr }

theorem fw_fn (fr : Option Nat) (f : FuncId) : (fw fr).fn f = True := rfl
theorem fw_depth (fr : Option Nat) : (fw fr).depth = none := rfl

/-- How code is left. -/
inductive VE where
  | nrm
  | ext (id : Nat)
  | gto (l : Nat)
  | ret
  | pan (v : AV)

/-- How a function is left. -/
inductive VO where
  | val (v : AV)
  | pan (v : AV)

/-- The activation has gone on; the first m entries are where they were. -/
structure ExtM (m : Nat) (w : World) (M : Nat → Nat → Prop) (G : List Gh) (w' : World) (M' : Nat → Nat → Prop) (G' : List Gh) : Prop where
  os : w'.os = w.os
  tape : w'.tape = w.tape
  output : w'.output = w.output
  size : w.heap.size ≤ w'.heap.size
  core : ∀ (i : Nat) (g : Gh), i < m → G[i]? = some g → ∃ g' : Gh, G'[i]? = some g' ∧ g'.core = g.core
  le : Le w M w' M'
  out : ∀ b, b < w.heap.size → ¬ own G b → w'.heap[b]? = w.heap[b]?
  new : ∀ b, own G' b → own G b ∨ w.heap.size ≤ b
  Mnew : ∀ b o, M' b o → M b o ∨ own G b ∨ w.heap.size ≤ b

section
variable {w w' w'' : World} {M M' M'' : Nat → Nat → Prop} {G G' G'' : List Gh} {H H' : List Ent} {m : Nat}

theorem Ext.toM (h : Ext w M G w' M' G') : ExtM m w M G w' M' G' := ⟨h.os, h.tape, h.output, h.size, fun i g _ hg => h.core i g hg, h.le, h.out, h.new, h.Mnew⟩
theorem ExtM.refl : ExtM m w M G w M G := (Ext.refl w M G).toM
theorem ExtM.trans (h : ExtM m w M G w' M' G') (k : ExtM m w' M' G' w'' M'' G'') : ExtM m w M G w'' M'' G'' where
  os := k.os.trans h.os
  tape := k.tape.trans h.tape
  output := k.output.trans h.output
  size := Nat.le_trans h.size k.size
  core := fun i g hi hg => by
    obtain ⟨g', hg', hc⟩ := h.core i g hi hg
    obtain ⟨g'', hg'', hc'⟩ := k.core i g' hi hg'
    exact ⟨g'', hg'', hc'.trans hc⟩
  le := h.le.trans k.le
  out := fun b hb ho => by
    have h1 := h.out b hb ho
    have h2 : ¬ own G' b := fun hc => by
      rcases h.new b hc with hx | hx
      · exact ho hx
      · omega
    exact (k.out b (Nat.lt_of_lt_of_le hb h.size) h2).trans h1
  new := fun b hb => by
    rcases k.new b hb with hx | hx
    · exact h.new b hx
    · exact .inr (Nat.le_trans h.size hx)
  Mnew := fun b o hm => by
    rcases k.Mnew b o hm with hx | hx | hx
    · exact h.Mnew b o hx
    · rcases h.new b hx with hy | hy
      · exact .inr (.inl hy)
      · exact .inr (.inr hy)
    · exact .inr (.inr (Nat.le_trans h.size hx))
theorem ExtM.toExt (h : ExtM G.length w M G w' M' G') : Ext w M G w' M' G' :=
  ⟨h.os, h.tape, h.output, h.size, fun i g hg => h.core i g (List.getElem?_eq_some_iff.1 hg).1 hg, h.le, h.out, h.new, h.Mnew⟩

/-- What a call comes to. -/
def Out (Q : List Ent → VO → Prop) (w : World) (M : Nat → Nat → Prop) (G : List Gh) : Ending → World → Prop
  | .returned x, w' => ∃ M' G' H' v, Q H' (.val v) ∧ Ext w M G w' M' G' ∧ St w' M' G' H' ∧ VR w' M' G' v x
  | .panicked chain, w' => ∃ M' G' H' v x, Q H' (.pan v) ∧ Ext w M G w' M' G' ∧ St w' M' G' H' ∧ VR w' M' G' v x ∧ chain = [{ v := x, recovered := false }]
  | .outgrown, _ => False

theorem Out.mono {Q Q' : List Ent → VO → Prop} (hq : ∀ H' o, Q H' o → Q' H' o) {e : Ending} {w' : World} (h : Out Q w M G e w') : Out Q' w M G e w' := by
  cases e with
  | returned x => obtain ⟨M', G', H', v, h1, h2⟩ := h; exact ⟨M', G', H', v, hq _ _ h1, h2⟩
  | panicked c => obtain ⟨M', G', H', v, x, h1, h2⟩ := h; exact ⟨M', G', H', v, x, hq _ _ h1, h2⟩
  | outgrown => exact h

theorem Out.trans {Q : List Ent → VO → Prop} (h0 : Ext w M G w' M' G') {e : Ending} {w₂ : World} (h : Out Q w' M' G' e w₂) : Out Q w M G e w₂ := by
  cases e with
  | returned x => obtain ⟨M', G', H', v, h1, h2, h3⟩ := h; exact ⟨M', G', H', v, h1, h0.trans h2, h3⟩
  | panicked c => obtain ⟨M', G', H', v, x, h1, h2, h3⟩ := h; exact ⟨M', G', H', v, x, h1, h0.trans h2, h3⟩
  | outgrown => exact h
end

/-- A function with a body, none of the model's own. -/
def okF (P : Program) (f : FuncId) : Bool :=
  match P.funcs[f]? with
  | some fn => fn.name != "runtime.NumGoroutine" && fn.body.isSome
  | none => false

/-- What a function does with these arguments. -/
def VCalls (P : Program) (f : FuncId) (H : List Ent) (args : List AV) (Q : List Ent → VO → Prop) : Prop :=
  okF P f = true ∧ ∀ (w : World) (M : Nat → Nat → Prop) (G : List Gh) (vs : List Value), St w M G H → VRs w M G args vs → CallsIn Fence.wide 0 P f vs.toArray w (Out Q w M G)

/-- What happens if this value is called. -/
def AppOut (P : Program) (x : Value) (args : Array Value) (w : World) (R : Ending → World → Prop) : Prop :=
  ∃ d w₁, (Deferred.ofValue x args).run P w = .ok d w₁ ∧
    match (invoke d.target d.args).run P w₁ with
    | .ok (.value v) w' => R (.returned v) w'
    | .ok (.enter f as) w' => CallsIn Fence.wide 0 P f as w' R
    | .ok (.round l f tmps assign body) w' => RoundIn Fence.wide 0 P l f tmps assign body w' R
    | .halt (.panic v) w' => R (.panicked [{ v, recovered := false }]) w'
    | _ => False

def VApp (P : Program) (H : List Ent) (fv : AV) (args : List AV) (Q : List Ent → VO → Prop) : Prop :=
  ∀ (w : World) (M : Nat → Nat → Prop) (G : List Gh) (x : Value) (vs : List Value), St w M G H → VR w M G fv x → VRs w M G args vs → AppOut P x vs.toArray w (Out Q w M G)

section
variable {P : Program} {H : List Ent} {f : FuncId} {args : List AV} {Q Q' : List Ent → VO → Prop}

theorem VCalls.mono (h : VCalls P f H args Q) (hq : ∀ H' o, Q H' o → Q' H' o) : VCalls P f H args Q' :=
  ⟨h.1, fun w M G vs hst hv => CallsIn.mono (h.2 w M G vs hst hv) fun e w' he => he.mono hq⟩

theorem AppOut.mono {x : Value} {as : Array Value} {w : World} {R R' : Ending → World → Prop} (h : AppOut P x as w R) (hr : ∀ e w', R e w' → R' e w') : AppOut P x as w R' := by
  obtain ⟨d, w₁, h1, h2⟩ := h
  refine ⟨d, w₁, h1, ?_⟩
  split at h2
  · exact hr _ _ h2
  · exact CallsIn.mono h2 hr
  · exact RoundIn.mono h2 hr
  · exact hr _ _ h2
  · exact h2.elim

theorem VApp.mono {fv : AV} (h : VApp P H fv args Q) (hq : ∀ H' o, Q H' o → Q' H' o) : VApp P H fv args Q' :=
  fun w M G x vs hst hf hv => (h w M G x vs hst hf hv).mono fun e w' he => he.mono hq

theorem run_callFunc {w : World} {as : Array Value} (h : okF P f = true) : (callFunc f as).run P w = .ok (.enter f as) w := by
  unfold okF at h
  split at h
  · rename_i fn hf
    simp only [Bool.and_eq_true, bne_iff_ne, ne_eq] at h
    obtain ⟨h1, h2⟩ := h
    have h3 : fn.body.isNone = false := by cases hb : fn.body <;> simp_all
    have h4 : (fn.name == "runtime.NumGoroutine") = false := by simpa using h1
    simp only [callFunc, Sem.run_bind, run_program, Result.andThen_ok, hf, h3, h4, Bool.false_eq_true, if_false, Sem.run_pure]
  · cases h

/-- A function value is called. -/
theorem vapp_fn {first caps : List AV} (h : VCalls P f H (first ++ args ++ caps) Q) : VApp P H (.fn f first caps) args Q := by
  intro w M G x vs hst hf hv
  obtain ⟨xs, ys, h1, h2, rfl⟩ := hf
  refine ⟨_, w, rfl, ?_⟩
  have hr : (invoke (Target.fn (.func f) ys.toArray) (xs.toArray ++ vs.toArray)).run P w = .ok (.enter f ((xs ++ vs ++ ys).toArray)) w := by
    simp only [invoke]
    rw [run_callFunc h.1]
    simp
  simp only [hr]
  exact h.2 w M G _ hst (VRs_append (VRs_append h1 hv) h2)
end

/-! ### Lists of operations -/

/-- A guard. -/
def gd (v : AV) (b : Bool) (A B : Prop) : Prop :=
  match v with
  | .bool c => if c = b then A else B
  | .tup [] => B
  | _ => False

@[congr] theorem gd_congr {v v' : AV} (h : v = v') (b : Bool) (A B : Prop) : gd v b A B = gd v' b A B := by rw [h]

def doI (P : Program) (Q : VE → AF → List Ent → Prop) (af : AF) (H : List Ent) (i : I) (K : AV → List Ent → Prop) : Prop :=
  match i with
  | .call f l => VApp P H (gt af f) (gco H af l) fun H' o => match o with
    | .val v => K v H'
    | .pan v => Q (.pan v) af H'
  | i => (evi af H i).bnd fun p => K p.1 p.2

def runL (P : Program) (Q : VE → AF → List Ent → Prop) : List GI → AF → List Ent → Prop
  | [], af, H => Q .nrm af H
  | ⟨none, d, i⟩ :: r, af, H => doI P Q af H i fun v H' => runL P Q r (put af d v) H'
  | ⟨some (t, b), d, i⟩ :: r, af, H => gd (get af.tm t) b (doI P Q af H i fun v H' => runL P Q r (put af d v) H') (runL P Q r (put af d (.tup [])) H)

def ExitR (w : World) (M : Nat → Nat → Prop) (G : List Gh) : VE → Exit → Prop
  | .nrm, e => e = .normal
  | .ext i, e => e = .exit i
  | .gto l, e => e = .goto l
  | .ret, e => e = .ret
  | .pan v, e => ∃ x, e = .panic [{ v := x, recovered := false }] ∧ VR w M G v x

/-- What is so when code is left. -/
def VPost (Q : VE → AF → List Ent → Prop) (n m : Nat) (w : World) (M : Nat → Nat → Prop) (G : List Gh) (e : Exit) (a' : Act) (w' : World) : Prop :=
  ∃ ve af' M' G' H', Q ve af' H' ∧ ExitR w' M' G' ve e ∧ ExtM m w M G w' M' G' ∧ St w' M' G' H' ∧ RelF w' M' G' n af' a'

/-- Code does this from that state on. -/
def VW (P : Program) (fr : Option Nat) (n m : Nat) (c : Code) (Q : VE → AF → List Ent → Prop) (af : AF) (H : List Ent) : Prop :=
  ∀ (w : World) (M : Nat → Nat → Prop) (G : List Gh) (a : Act), St w M G H → RelF w M G n af a → c.wpIn (fw fr) 0 P (VPost Q n m w M G) a w

section
variable {P : Program} {fr : Option Nat} {n m : Nat} {Q : VE → AF → List Ent → Prop} {af : AF} {H : List Ent} {ops : Array Oper}

theorem VPost.trans {w w₁ : World} {M M₁ : Nat → Nat → Prop} {G G₁ : List Gh} (h : ExtM m w M G w₁ M₁ G₁) {e : Exit} {a' : Act} {w' : World} (hp : VPost Q n m w₁ M₁ G₁ e a' w') : VPost Q n m w M G e a' w' := by
  obtain ⟨ve, af', M', G', H', h1, h2, h3, h4, h5⟩ := hp
  exact ⟨ve, af', M', G', H', h1, h2, h.trans h3, h4, h5⟩

theorem VR_undef {w : World} {M : Nat → Nat → Prop} {G : List Gh} : VR w M G (.tup []) undef := ⟨[], rfl, rfl⟩

theorem callsIn_fw {k : Nat} {f : FuncId} {as : Array Value} {w : World} {R : Ending → World → Prop} (h : CallsIn Fence.wide 0 P f as w R) : CallsIn (fw fr) k P f as w R := by
  refine ⟨trivial, fun cs hr => ?_⟩
  exact h.2 cs (room_wide _)
theorem roundIn_fw {k l : Nat} {f : FuncId} {tmps : Array Value} {as bd : Code} {w : World} {R : Ending → World → Prop} (h : RoundIn Fence.wide 0 P l f tmps as bd w R) : RoundIn (fw fr) k P l f tmps as bd w R :=
  ⟨trivial, fun c cs hr => h.2 c cs (room_wide _)⟩

theorem cI_call {o : Oper} {f : Opd} {l : List (Opd × Co)} (h : cI P o = some (.call f l)) : ∃ c g, o.op = .call c ∧ c.callee = .value g ∧ cO g = some f ∧ cArgs P c.args.toList c.argTypes.toList = some l := by
  unfold cI at h
  split at h
  all_goals first
    | (obtain ⟨y, _, h⟩ := Option.map_eq_some_iff.1 h; cases h; done)
    | skip
  case h_24 c ho =>
    refine ⟨c, ?_⟩
    unfold cCall at h
    split at h
    · rename_i g hg
      split at h
      · rename_i a l' h1 h2
        simp only [Option.some.injEq, I.call.injEq] at h
        obtain ⟨rfl, rfl⟩ := h
        exact ⟨g, ho, hg, h1, h2⟩
      · cases h
    · cases h
    · exfalso
      repeat' split at h
      all_goals cases h
  all_goals
    exfalso
    repeat' split at h
    all_goals first
      | (cases h; done)
      | (obtain ⟨y, _, h⟩ := Option.map_eq_some_iff.1 h; cases h; done)

theorem cArgs_sound {w : World} {M : Nat → Nat → Prop} {G : List Gh} {a : Act} (hst : St w M G H) (hr : RelF w M G n af a) : ∀ (xs : List Operand) (ts : List TypeId) (l : List (Opd × Co)), cArgs P xs ts = some l → VRs w M G (gco H af l) (xs.map a.eval)
  | [], ts, l, h => by simp [cArgs] at h; subst h; rfl
  | x :: r, ts, l, h => by
    simp only [cArgs] at h
    split at h
    · rename_i b l' hb hl
      simp only [Option.some.injEq] at h
      subst h
      exact ⟨_, _, rfl, co_sound hst _ _ _ (cO_sound hb hr), cArgs_sound hst hr r _ _ hl⟩
    · cases h

theorem semAt_no_defer {fr : Option Nat} {o : Oper} (ρ : Operand → Value) (h : ∀ c, o.op ≠ .defer c) : Oper.semAt fr ρ o = execOp ρ o := by
  cases fr with
  | none => exact Oper.semAt_none ρ o
  | some l => exact Oper.semAt_some l ρ o h

theorem cI_no_defer {o : Oper} {i : I} (h : cI P o = some i) : ∀ c, o.op ≠ .defer c := by
  intro c hc
  simp [cI, hc] at h

theorem put_put_none (a : Act) (d : Option Nat) (x : Value) : a.put d x = a.put d x := rfl

/-- One operation. -/
theorem doI_sound {o : Oper} {i : I} {w : World} {M : Nat → Nat → Prop} {G : List Gh} {a : Act} {K : AV → List Ent → Prop} {R : Act → World → Prop} {S : Exit → Act → World → Prop} (hc : cI P o = some i) (hd : o.dst.all (· < n) = true) (hst : St w M G H) (hr : RelF w M G n af a)
    (h : doI P Q af H i K) (hR : ∀ v H' x w' M' G', K v H' → Ext w M G w' M' G' → St w' M' G' H' → VR w' M' G' v x → R (a.put o.dst x) w')
    (hS : ∀ v H' x w' M' G', Q (.pan v) af H' → Ext w M G w' M' G' → St w' M' G' H' → VR w' M' G' v x → S (.panic [{ v := x, recovered := false }]) a w') : o.wpIn (fw fr) 0 P a w R S := by
  refine ⟨fun _ _ => trivial, ?_⟩
  rw [semAt_no_defer _ (cI_no_defer hc)]
  by_cases hcall : ∃ f l, i = .call f l
  · obtain ⟨f, l, rfl⟩ := hcall
    obtain ⟨c, g, ho, hcal, hg, hl⟩ := cI_call hc
    simp only [doI] at h
    have hx := cO_sound hg hr
    have hxs := cArgs_sound hst hr _ _ _ hl
    obtain ⟨d, w₁, h1, h2⟩ := h w M G _ _ hst hx hxs
    have he : (execOp a.eval o).run P w = (invoke d.target d.args).run P w₁ := by
      simp only [execOp, ho, resolve, hcal, Sem.run_bind]
      have : c.args.map a.eval = (c.args.toList.map a.eval).toArray := by
        apply Array.ext'; simp
      rw [this, h1]
      rfl
    have hout : ∀ e w', Out (fun H' o => match o with | .val v => K v H' | .pan v => Q (.pan v) af H') w M G e w' → (match e with
        | .returned v => R (a.put o.dst v) w'
        | .panicked chain => S (.panic chain) a w'
        | .outgrown => LetsOut S) := by
      intro e w' ho
      cases e with
      | returned x => obtain ⟨M', G', H', v, q1, q2, q3, q4⟩ := ho; exact hR _ _ _ _ _ _ q1 q2 q3 q4
      | panicked ch => obtain ⟨M', G', H', v, x, q1, q2, q3, q4, rfl⟩ := ho; exact hS _ _ _ _ _ _ q1 q2 q3 q4
      | outgrown => exact ho.elim
    rw [he]
    split at h2
    · rename_i v w' hq
      rw [hq]
      exact hout _ _ h2
    · rename_i f' as w' hq
      rw [hq, Oper.uponIn_enter]
      refine ⟨fun hh => (by cases hh), CallsIn.mono (callsIn_fw h2) fun e w' he => ?_⟩
      have := hout e w' he
      cases e <;> exact this
    · rename_i l' f' tmps as bd w' hq
      rw [hq, Oper.uponIn_round]
      refine ⟨fun hh => (by cases hh), RoundIn.mono (roundIn_fw h2) fun e w' he => ?_⟩
      have := hout e w' he
      cases e <;> exact this
    · rename_i v w' hq
      rw [hq]
      exact hout _ _ h2
    · exact h2.elim
  · have hni : ∀ f l, i ≠ .call f l := fun f l e => hcall ⟨f, l, e⟩
    have h' : (evi af H i).bnd fun p => K p.1 p.2 := by
      cases i <;> first | exact h | exact absurd rfl (hni _ _)
    obtain ⟨v, H', x, w', M', G', q1, q2, q3, q4, q5⟩ := cI_sound hc hni hst hr h'
    rcases q5 with q5 | ⟨q5, rfl⟩
    · rw [q5]; exact hR _ _ _ _ _ _ q1 q2 q3 q4
    · rw [q5]; exact hR _ _ _ _ _ _ q1 q2 q3 q4

theorem wanted_gd {o : Oper} {g : Option (Nat × Bool)} {w : World} {M : Nat → Nat → Prop} {G : List Gh} {a : Act} {A B : Prop} (hg : cG ops o.guard = some g) (hr : RelF w M G n af a) (h : match g with | none => A | some (t, b) => gd (get af.tm t) b A B) :
    (Region.wanted o (yielded ops a.tmps) = true ∧ A) ∨ (Region.wanted o (yielded ops a.tmps) = false ∧ B) := by
  cases hgo : o.guard with
  | none =>
    rw [hgo] at hg
    simp [cG] at hg; subst hg
    exact .inl ⟨by simp [Region.wanted, hgo], h⟩
  | some p =>
    obtain ⟨j, b⟩ := p
    rw [hgo] at hg
    simp only [cG] at hg
    split at hg
    · rename_i d hd
      simp only [Option.some.injEq] at hg; subst hg
      have hv := hr.rd d
      simp only at h
      have hy : yielded ops a.tmps j = match a.tmps[d]? with | some (.bool b) => some b | _ => none := by
        unfold yielded; rw [hd]; rfl
      unfold gd at h
      split at h
      · rename_i c hc
        rw [hc] at hv
        have hv : a.tmps.getD d undef = .bool c := hv
        have hv' : a.tmps[d]? = some (.bool c) := by
          rw [Array.getD_eq_getD_getElem?] at hv
          cases hq : a.tmps[d]? with
          | none => rw [hq] at hv; cases hv
          | some z => rw [hq] at hv; simp at hv; rw [hv]
        rw [hv'] at hy
        simp only [Region.wanted, hgo, hy]
        by_cases hcb : c = b
        · rw [if_pos hcb] at h; exact .inl ⟨by simp [hcb], h⟩
        · rw [if_neg hcb] at h; exact .inr ⟨by simp [hcb], h⟩
      · rename_i hc
        rw [hc] at hv
        obtain ⟨vs, hv, hvs⟩ := hv
        refine .inr ⟨?_, h⟩
        have hy' : yielded ops a.tmps j = none := by
          rw [hy]
          rw [Array.getD_eq_getD_getElem?] at hv
          cases hq : a.tmps[d]? with
          | none => rfl
          | some z => rw [hq] at hv; simp at hv; rw [hv]
        simp [Region.wanted, hgo, hy']
      · exact h.elim
    · cases hg

theorem runL_sound {S : Exit → Act → World → Prop} {Q : VE → AF → List Ent → Prop} : ∀ (l : List Oper) (gl : List GI) (af : AF) (H : List Ent) (w : World) (M : Nat → Nat → Prop) (G : List Gh) (a : Act), cL P ops n l = some gl → St w M G H → RelF w M G n af a → runL P Q gl af H →
    (∀ e a' w', VPost Q n m w M G e a' w' → S e a' w') → wpListIn (fw fr) 0 P ops S l a w
  | [], gl, af, H, w, M, G, a, hc, hst, hr, h, hS => by
    simp [cL] at hc; subst hc
    exact hS _ _ _ ⟨.nrm, af, M, G, H, h, rfl, ExtM.refl, hst, hr⟩
  | o :: r, gl, af, H, w, M, G, a, hc, hst, hr, h, hS => by
    simp only [cL] at hc
    split at hc
    · rename_i gi l' hgi hl
      simp only [Option.some.injEq] at hc; subst hc
      unfold cGI at hgi
      split at hgi
      · rename_i g i hg hi
        split at hgi
        · rename_i hd
          simp only [Option.some.injEq] at hgi; subst hgi
          have hA : ∀ R, (∀ a' w', wpListIn (fw fr) 0 P ops S r a' w' → R a' w') → doI P Q af H i (fun v H' => runL P Q l' (put af o.dst v) H') → o.wpIn (fw fr) 0 P a w R S := by
            intro R hR hdo
            refine doI_sound hi hd hst hr hdo (fun v H' x w' M' G' k1 k2 k3 k4 => hR _ _ ?_) (fun v H' x w' M' G' k1 k2 k3 k4 => hS _ _ _ ⟨.pan v, af, M', G', H', k1, ⟨x, rfl, k4⟩, k2.toM, k3, hr.ext k2⟩)
            exact runL_sound r l' _ H' w' M' G' _ hl k3 ((hr.ext k2).put k4 hd) k1 (fun e a' w'' hp => hS _ _ _ (hp.trans k2.toM))
          have hB : runL P Q l' (put af o.dst (.tup [])) H → wpListIn (fw fr) 0 P ops S r (a.put o.dst undef) w := fun hh =>
            runL_sound r l' _ H w M G _ hl hst (hr.put VR_undef hd) hh hS
          have hsplit := wanted_gd (A := doI P Q af H i (fun v H' => runL P Q l' (put af o.dst v) H')) (B := runL P Q l' (put af o.dst (.tup [])) H) hg hr (by
            cases g with
            | none => exact h
            | some p => exact h)
          simp only [wpListIn]
          rcases hsplit with ⟨h1, h2⟩ | ⟨h1, h2⟩
          · rw [if_pos h1]; exact hA _ (fun _ _ h => h) h2
          · rw [h1]; exact ⟨fun _ _ => trivial, hB h2⟩
        · cases hgi
      · cases hgi
    · cases hc

theorem vw_reg {id : Nat} {gl : List GI} (hc : cL P ops n ops.toList = some gl) (h : runL P Q gl af H) : VW P fr n m (.region id ops false) Q af H :=
  fun w M G a hst hr => wpIn_region_list (runL_sound ops.toList gl af H w M G a hc hst hr h fun _ _ _ hp => hp)
end
end Go.V
