
/-
  The value logic, part o: functions as a whole; how a state is said with less, by lists; pure functions.
-/
import Derived.Test.YthakdbpffcicfaaVnb
namespace Go.V
open Go Go.RowKit
set_option linter.unusedVariables false
set_option linter.unusedSimpArgs false

/-! ### What every value that is there obeys -/

mutual
def AV.wf : AV → Prop
  | .int k n => (Lit.int k n).wf = true
  | .str l => l.length ≤ maxLen
  | .sl _ es => es.length ≤ maxLen ∧ AV.wfs es
  | .lit _ es => es.length ≤ maxLen ∧ AV.wfs es
  | .eptr _ es _ _ => es.length ≤ maxLen ∧ AV.wfs es
  | .agg cs => AV.wfs cs
  | .tup cs => AV.wfs cs
  | .fn _ a b => AV.wfs a ∧ AV.wfs b
  | .iface _ v => v.wf
  | .bool _ | .nilp | .nilf | .nili | .nils | .nilm | .ptr _ _ | .row _ _ | .rptr _ _ _ _ | .vw _ _ _ _ | .opq _ | .junk => True
def AV.wfs : List AV → Prop
  | [] => True
  | v :: r => v.wf ∧ AV.wfs r
end
def VO.wf : VO → Prop
  | .val v => v.wf
  | .pan v => v.wf
theorem wfs_iff (l : List AV) : AV.wfs l ↔ ∀ v ∈ l, v.wf := by
  induction l with
  | nil => simp [AV.wfs]
  | cons v r ih => simp [AV.wfs, ih]

section
variable {w : World} {M : Nat → Nat → Prop} {G : List Gh}
theorem SlOK_len {n : Nat} {us : List Value} {a : Option Addr} {cap : Nat} (h : SlOK w M n us a cap) : us.length ≤ maxLen := Nat.le_trans h.1 h.2.1
mutual
theorem VR_wf : ∀ (v : AV) (x : Value), VR w M G v x → v.wf
  | .bool _, x, h => trivial
  | .int _ _, x, h => h.2
  | .str _, x, h => h.2
  | .nilp, x, h => trivial
  | .nilf, x, h => trivial
  | .nili, x, h => trivial
  | .nils, x, h => trivial
  | .nilm, x, h => trivial
  | .junk, x, h => trivial
  | .agg cs, x, h => by obtain ⟨vs, _, h⟩ := h; exact VRs_wf cs vs h
  | .tup cs, x, h => by obtain ⟨vs, _, h⟩ := h; exact VRs_wf cs vs h
  | .sl n es, x, h => by
    obtain ⟨a, cap, us, h1, h2, _⟩ := h
    exact ⟨by rw [← VRs_length h1]; exact SlOK_len h2, VRs_wf es us h1⟩
  | .lit n es, x, h => by
    obtain ⟨a, us, h1, h2, _⟩ := h
    exact ⟨by rw [← VRs_length h1]; exact SlOK_len h2, VRs_wf es us h1⟩
  | .ptr i off, x, h => trivial
  | .row i len, x, h => trivial
  | .eptr n es q off, x, h => by
    obtain ⟨a, cap, us, h1, h2, _⟩ := h
    exact ⟨by rw [← VRs_length h1]; exact SlOK_len h2, VRs_wf es us h1⟩
  | .rptr i n q off, x, h => trivial
  | .vw i off len cap, x, h => trivial
  | .fn f first caps, x, h => by
    obtain ⟨xs, ys, h1, h2, _⟩ := h
    exact ⟨VRs_wf first xs h1, VRs_wf caps ys h2⟩
  | .opq i, x, h => trivial
  | .iface t v, x, h => by
    obtain ⟨y, h1, _⟩ := h
    exact VR_wf v y h1
theorem VRs_wf : ∀ (vs : List AV) (xs : List Value), VRs w M G vs xs → AV.wfs vs
  | [], xs, h => trivial
  | c :: cs, xs, h => by
    obtain ⟨v, r, _, h1, h2⟩ := h
    exact ⟨VR_wf c v h1, VRs_wf cs r h2⟩
end
end

theorem VCalls.mono' {P : Program} {f : FuncId} {H : List Ent} {args : List AV} {Q Q' : List Ent → VO → Prop} (h : VCalls P f H args Q) (hq : ∀ H' o, o.wf → Q H' o → Q' H' o) : VCalls P f H args Q' :=
  ⟨h.1, fun w M G vs hst hv => CallsIn.mono (h.2 w M G vs hst hv) fun e w' he => by
    cases e with
    | returned x => obtain ⟨M', G', H', v, h1, h2, h3, h4⟩ := he; exact ⟨M', G', H', v, hq _ _ (VR_wf v x h4) h1, h2, h3, h4⟩
    | panicked c => obtain ⟨M', G', H', v, x, h1, h2, h3, h4, h5⟩ := he; exact ⟨M', G', H', v, x, hq _ _ (VR_wf v x h4) h1, h2, h3, h4, h5⟩
    | outgrown => exact he⟩

/-- The arguments are as every value is. -/
theorem vcalls_wf {P : Program} {f : FuncId} {H : List Ent} {args : List AV} {Q : List Ent → VO → Prop} (ho : okF P f = true) (h : AV.wfs args → VCalls P f H args Q) : VCalls P f H args Q :=
  ⟨ho, fun w M G vs hst hv => (h (VRs_wf args vs hv)).2 w M G vs hst hv⟩

/-! ### A state said with less, by lists -/

def entsOK (H : List Ent) (sel : List Nat) (k : Nat) : List Ent → List Nat → Prop
  | [], [] => True
  | .dead :: r, i :: is => i < H.length ∧ entsOK H sel k r is
  | e :: r, i :: is => (i < H.length ∧ e.bd k = true ∧ ent H i = e.ren (sg sel)) ∧ entsOK H sel k r is
  | _, _ => False
def tmOK (tm : List (Nat × AV)) (sel : List Nat) (k : Nat) : List (Nat × AV) → Prop
  | [] => True
  | (t, v) :: r => (v.bd k = true ∧ get tm t = v.ren (sg sel)) ∧ tmOK tm sel k r
def dlOK (sel : List Nat) (k : Nat) : List AD → List AD → Prop
  | [], [] => True
  | d :: r, d' :: r' => (d'.bd k = true ∧ d = d'.ren (sg sel)) ∧ dlOK sel k r r'
  | _, _ => False

section
variable {P : Program} {fr : Option Nat} {n m : Nat} {Q Q' : VE → AF → List Ent → Prop} {af af' : AF} {H H' : List Ent} {a b : IC}

theorem entsOK_spec {sel : List Nat} {k : Nat} : ∀ {l : List Ent} {is : List Nat}, entsOK H sel k l is → l.length = is.length ∧ ∀ (j : Nat) (e : Ent) (i : Nat), l[j]? = some e → is[j]? = some i → i < H.length ∧ (e = .dead ∨ (e.bd k = true ∧ H[i]? = some (e.ren (sg sel))))
  | [], [], _ => ⟨rfl, fun j e i h => by simp at h⟩
  | [], i :: is, h => h.elim
  | e :: r, [], h => by cases e <;> exact h.elim
  | .dead :: r, i :: is, h => by
    obtain ⟨h1, h2⟩ := h
    obtain ⟨h3, h4⟩ := entsOK_spec h2
    refine ⟨by simp [h3], fun j e i' he hi => ?_⟩
    cases j with
    | zero => simp at he hi; subst he hi; exact ⟨h1, .inl rfl⟩
    | succ j => exact h4 j e i' (by simpa using he) (by simpa using hi)
  | .blk cs :: r, i :: is, h => by
    obtain ⟨⟨h0, h1, h5⟩, h2⟩ := h
    obtain ⟨h3, h4⟩ := entsOK_spec h2
    refine ⟨by simp [h3], fun j e i' he hi => ?_⟩
    cases j with
    | zero => simp at he hi; subst he hi; exact ⟨h0, .inr ⟨h1, ent_get h5 (by simp [Ent.ren])⟩⟩
    | succ j => exact h4 j e i' (by simpa using he) (by simpa using hi)
  | .app q es :: r, i :: is, h => by
    obtain ⟨⟨h0, h1, h5⟩, h2⟩ := h
    obtain ⟨h3, h4⟩ := entsOK_spec h2
    refine ⟨by simp [h3], fun j e i' he hi => ?_⟩
    cases j with
    | zero => simp at he hi; subst he hi; exact ⟨h0, .inr ⟨h1, ent_get h5 (by simp [Ent.ren])⟩⟩
    | succ j => exact h4 j e i' (by simpa using he) (by simpa using hi)
  | .mrow q es :: r, i :: is, h => by
    obtain ⟨⟨h0, h1, h5⟩, h2⟩ := h
    obtain ⟨h3, h4⟩ := entsOK_spec h2
    refine ⟨by simp [h3], fun j e i' he hi => ?_⟩
    cases j with
    | zero => simp at he hi; subst he hi; exact ⟨h0, .inr ⟨h1, ent_get h5 (by simp [Ent.ren])⟩⟩
    | succ j => exact h4 j e i' (by simpa using he) (by simpa using hi)
  | .lp d as :: r, i :: is, h => by
    obtain ⟨⟨h0, h1, h5⟩, h2⟩ := h
    obtain ⟨h3, h4⟩ := entsOK_spec h2
    refine ⟨by simp [h3], fun j e i' he hi => ?_⟩
    cases j with
    | zero => simp at he hi; subst he hi; exact ⟨h0, .inr ⟨h1, ent_get h5 (by simp [Ent.ren])⟩⟩
    | succ j => exact h4 j e i' (by simpa using he) (by simpa using hi)

theorem tmOK_spec {tm : List (Nat × AV)} {sel : List Nat} {k : Nat} : ∀ {l : List (Nat × AV)}, tmOK tm sel k l → ∀ t, get l t = .junk ∨ ((get l t).bd k = true ∧ get tm t = (get l t).ren (sg sel))
  | [], _, t => .inl rfl
  | (s, v) :: r, h, t => by
    obtain ⟨⟨h1, h2⟩, h3⟩ := h
    simp only [get]
    by_cases hst : s = t
    · subst hst; rw [if_pos rfl]; exact .inr ⟨h1, h2⟩
    · rw [if_neg hst]; exact tmOK_spec h3 t

theorem dlOK_spec {sel : List Nat} {k : Nat} : ∀ {l l' : List AD}, dlOK sel k l l' → (∀ d ∈ l', d.bd k = true) ∧ l = l'.map (AD.ren (sg sel))
  | [], [], _ => ⟨fun d h => (by cases h), rfl⟩
  | [], d :: r, h => h.elim
  | d :: r, [], h => h.elim
  | d :: r, d' :: r', h => by
    obtain ⟨⟨h1, h2⟩, h3⟩ := h
    obtain ⟨h4, h5⟩ := dlOK_spec h3
    refine ⟨fun x hx => ?_, by rw [List.map_cons, ← h5, ← h2]⟩
    rcases List.mem_cons.1 hx with rfl | hx
    · exact h1
    · exact h4 x hx

/-- The first m numbers stay. -/
def fixes (m : Nat) (sel : List Nat) : Prop := sel.take m = List.range m

theorem wk_of (sel : List Nat) (hf : fixes m sel) (hn : sel.Nodup) (he : entsOK H sel H'.length H' sel) (ht : tmOK af.tm sel H'.length af'.tm) (hd : dlOK sel H'.length af.dl af'.dl) : Wk m af H af' H' := by
  obtain ⟨h1, h2⟩ := entsOK_spec he
  obtain ⟨h3, h4⟩ := dlOK_spec hd
  have hml : m ≤ sel.length := by
    have := congrArg List.length hf
    simp at this; omega
  refine ⟨sg sel, fun i hi => ?_, by omega, fun i j hi hj e => ?_, fun j e hj => ?_, fun j hj => ?_, tmOK_spec ht, h3, h4⟩
  · have h5 : (sel.take m)[i]? = some i := by rw [hf]; simp [hi]
    rw [List.getElem?_take_of_lt hi, sg_lt (by omega)] at h5
    simpa using h5
  · have h1 := sg_lt (sel := sel) (j := i) (by omega)
    have h2 := sg_lt (sel := sel) (j := j) (by omega)
    rw [e, ← h2] at h1
    exact (List.getElem?_inj (by omega) hn).1 h1
  · have hj' := (List.getElem?_eq_some_iff.1 hj).1
    exact (h2 j e _ hj (sg_lt (by omega))).2
  · exact (h2 j _ _ (List.getElem?_eq_getElem hj) (sg_lt (by omega))).1

theorem at_of {S : Type} {Inv : S → Prop} {st : S → AF × List Ent} (s : S) (sel : List Nat) (hs : Inv s) (hf : fixes m sel) (hn : sel.Nodup) (he : entsOK H sel (st s).2.length (st s).2 sel) (ht : tmOK af.tm sel (st s).2.length (st s).1.tm)
    (hd : dlOK sel (st s).2.length af.dl (st s).1.dl) : At S Inv st m af H := ⟨s, hs, wk_of sel hf hn he ht hd⟩
end

/-! ### Functions -/

/-- A result: a temporary; a variable in memory. -/
inductive RV where
  | t (n : Nat)
  | c (agg : Bool) (n a : Nat)

def cRes (P : Program) : List ResultVar → List TypeId → Option (List (RV × Co))
  | [], _ => some []
  | .tmp t :: r, ts => match cRes P r ts.tail with
    | some l => some ((.t t, match ts.head? with | some t => coT P t | none => .id) :: l)
    | none => none
  | .cell a t :: r, ts => match aggT P t, sizeT P t, cRes P r ts.tail with
    | some g, some n, some l => some ((.c g n a, match ts.head? with | some t => coT P t | none => .id) :: l)
    | _, _, _ => none

def cFun (P : Program) (f : FuncId) : Option (Nat × IC × List (RV × Co)) :=
  match P.funcs[f]? with
  | some fn => if fn.name == "runtime.NumGoroutine" then none else match fn.body with
    | some c => match cCode P fn.ntmps c, cRes P fn.results.toList fn.resultTypes.toList with
      | some ic, some rs => some (fn.ntmps, ic, rs)
      | _, _ => none
    | none => none
  | none => none

def retvs (af : AF) (H : List Ent) : List (RV × Co) → Rs (List AV)
  | [] => .ret []
  | (.t t, c) :: r => (retvs af H r).map fun l => co H c (get af.tm t) :: l
  | (.c g n a, c) :: r => match ldv g n H (get af.tm a) with
    | .ret v => (retvs af H r).map fun l => co H c v :: l
    | .req p (.ret v) => .req p ((retvs af H r).map fun l => co H c v :: l)
    | .req p (.req q (.ret v)) => .req p (.req q ((retvs af H r).map fun l => co H c v :: l))
    | _ => .bad
def one : List AV → AV
  | [v] => v
  | l => .tup l

/-- The function is left: what is kept of its memory. -/
def fin (k : Nat) (Q : List Ent → VO → Prop) (H : List Ent) (o : VO) : Prop :=
  k ≤ H.length ∧ (H.take k).all (Ent.bd k) = true ∧ o.bd k = true ∧ Q (H.take k) o

/-- What is deferred, done: the marks of loops over functions are struck off. -/
def dlq : List AD → List Ent → (List Ent → Prop) → Prop
  | [], H, K => K H
  | .mark i :: l, H, K => match ent H i with
    | .lp _ _ => dlq l (H.set i .dead) K
    | _ => False
  | .dfr _ _ :: _, _, _ => False

def retk (k : Nat) (rs : List (RV × Co)) (Q : List Ent → VO → Prop) (af : AF) (H : List Ent) : Prop :=
  (retvs af H rs).bnd fun l => fin k Q H (.val (one l))
def pank (k : Nat) (Q : List Ent → VO → Prop) (v : AV) (H : List Ent) : Prop := fin k Q H (.pan v)

def retq (k : Nat) (rs : List (RV × Co)) (Q : List Ent → VO → Prop) : VE → AF → List Ent → Prop
  | .nrm, af, H | .ret, af, H => dlq af.dl H (retk k rs Q af)
  | .pan v, af, H => dlq af.dl H (pank k Q v)
  | _, _, _ => False

theorem dlq_mono {K K' : List Ent → Prop} (h : ∀ H, K H → K' H) : ∀ {l : List AD} {H : List Ent}, dlq l H K → dlq l H K'
  | [], H, hq => h H hq
  | .mark i :: l, H, hq => by
    simp only [dlq] at hq ⊢
    split at hq
    · exact dlq_mono h hq
    · exact hq.elim
  | .dfr _ _ :: _, _, hq => hq.elim

def zipArgs : Nat → List AV → List (Nat × AV)
  | _, [] => []
  | i, a :: r => (i, a) :: zipArgs (i + 1) r

section
variable {P : Program} {w : World} {M : Nat → Nat → Prop} {G : List Gh} {n m : Nat} {af : AF} {H : List Ent} {a : Act}

mutual
theorem AV.ren_id : ∀ v : AV, v.ren id = v
  | .bool _ | .int _ _ | .str _ | .nilp | .nilf | .nili | .nils | .nilm | .junk | .ptr _ _ | .row _ _ | .rptr _ _ _ _ | .vw _ _ _ _ | .opq _ => rfl
  | .agg cs | .tup cs | .sl _ cs | .lit _ cs | .eptr _ cs _ _ => by simp only [AV.ren, AV.rens_id cs]
  | .fn f a b => by simp only [AV.ren, AV.rens_id a, AV.rens_id b]
  | .iface t v => by simp only [AV.ren, AV.ren_id v]
theorem AV.rens_id : ∀ l : List AV, AV.rens id l = l
  | [] => rfl
  | v :: r => by simp only [AV.rens, AV.ren_id v, AV.rens_id r]
end
theorem Ent.ren_id (e : Ent) : e.ren id = e := by cases e <;> simp only [Ent.ren, AV.rens_id]

theorem retvs_sound (hst : St w M G H) (hr : RelF w M G n af a) : ∀ {rs : List ResultVar} {ts : List TypeId} {l : List (RV × Co)} {K : List AV → Prop}, cRes P rs ts = some l → (retvs af H l).bnd K →
    ∃ vs xs, K vs ∧ VRs w M G vs xs ∧ (rs.mapM (m := Sem) fun | .tmp t => pure (a.tmps.getD t undef) | .cell q t => do loadVar t (← asAddr (a.tmps.getD q undef))).run P w = .ok xs w
  | [], ts, l, K, hc, h => by
    simp only [cRes, Option.some.injEq] at hc; subst hc
    exact ⟨[], [], h, rfl, rfl⟩
  | .tmp t :: r, ts, l, K, hc, h => by
    simp only [cRes] at hc
    split at hc
    · rename_i l' hl
      simp only [Option.some.injEq] at hc; subst hc
      simp only [retvs] at h
      rw [bnd_map] at h
      obtain ⟨vs, xs, h1, h2, h3⟩ := retvs_sound hst hr hl h
      refine ⟨_, _, h1, ⟨_, _, rfl, co_sound hst _ _ _ (hr.rd t), h2⟩, ?_⟩
      simp only [List.mapM_cons, Sem.run_bind, Sem.run_pure, Result.andThen_ok, h3]
    · cases hc
  | .cell q t :: r, ts, l, K, hc, h => by
    simp only [cRes] at hc
    split at hc
    · rename_i g k l' hg hk hl
      simp only [Option.some.injEq] at hc; subst hc
      have hld : ∃ v : AV, (ldv g k H (get af.tm q)).bnd (fun u => u = v) ∧ ((retvs af H l').map fun l => co H (match ts.head? with | some t => coT P t | none => .id) v :: l).bnd K := by
        simp only [retvs] at h
        split at h
        · rename_i v hv; exact ⟨v, by rw [hv]; rfl, h⟩
        · rename_i p v hv; exact ⟨v, by rw [hv]; exact ⟨h.1, rfl⟩, h.2⟩
        · rename_i p p' v hv; exact ⟨v, by rw [hv]; exact ⟨h.1, h.2.1, rfl⟩, h.2.2⟩
        · exact h.elim
      obtain ⟨v, hv, h⟩ := hld
      rw [bnd_map] at h
      obtain ⟨vs, xs, h1, h2, h3⟩ := retvs_sound hst hr hl h
      obtain ⟨u, x, q1, q2, q3⟩ := ldv_sound (P := P) (t := t) hst hg hk (hr.rd q) hv
      subst q1
      have hsp : (do loadVar t (← asAddr (a.tmps.getD q undef)) : Sem Value).run P w = .ok x w := by
        have hrd := hr.rd q
        cases hp : get af.tm q <;> rw [hp] at hv hrd <;> simp only [ldv, Rs.bnd] at hv
        · obtain ⟨g', _, hx⟩ := hrd
          rw [hx] at q3 ⊢
          rw [run_loadAt_ptr] at q3
          simp only [Sem.run_bind, asAddr, Sem.run_pure, Result.andThen_ok]; exact q3
        · obtain ⟨ad, cap, us, _, hsl, _, hx⟩ := hrd
          rw [hx] at q3 ⊢
          rw [run_loadAt_ptr] at q3
          simp only [Sem.run_bind, asAddr, Sem.run_pure, Result.andThen_ok]; exact q3
        · obtain ⟨g', _, hx⟩ := hrd
          rw [hx] at q3 ⊢
          rw [run_loadAt_ptr] at q3
          simp only [Sem.run_bind, asAddr, Sem.run_pure, Result.andThen_ok]; exact q3
      refine ⟨_, _, h1, ⟨_, _, rfl, co_sound hst _ _ _ q2, h2⟩, ?_⟩
      simp only [Sem.run_bind] at hsp
      simp only [List.mapM_cons, Sem.run_bind, hsp, Result.andThen_ok, h3, Sem.run_pure]
    · cases hc

theorem run_results {fn : Func} {l : List (RV × Co)} {K : List AV → Prop} (hst : St w M G H) (hr : RelF w M G n af a) (hc : cRes P fn.results.toList fn.resultTypes.toList = some l) (h : (retvs af H l).bnd K) :
    ∃ vs x, K vs ∧ VR w M G (one vs) x ∧ (results fn a.tmps).run P w = .ok x w := by
  obtain ⟨vs, xs, h1, h2, h3⟩ := retvs_sound hst hr hc h
  have hm : (fn.results.mapM (m := Sem) fun | .tmp t => pure (a.tmps.getD t undef) | .cell q t => do loadVar t (← asAddr (a.tmps.getD q undef))).run P w = .ok xs.toArray w := by
    rw [← Array.toArray_toList (xs := fn.results)]
    rw [List.mapM_toArray]
    simp only [Sem.run_map, h3]
    rfl
  have hl := VRs_length h2
  refine ⟨vs, (if h : xs.toArray.size = 1 then xs.toArray[0] else .tuple xs.toArray), h1, ?_, ?_⟩
  · match vs, h2 with
    | [], h2 => simp only [VRs] at h2; subst h2; exact ⟨[], by simp, rfl⟩
    | [v], h2 =>
      obtain ⟨x, r, rfl, h4, h5⟩ := h2
      simp only [VRs] at h5; subst h5
      exact h4
    | v :: v' :: r, h2 =>
      have : xs.toArray.size ≠ 1 := by simp at hl ⊢; omega
      rw [dif_neg this]
      exact ⟨xs, rfl, h2⟩
  · simp only [results, Sem.run_bind]
    erw [hm]
    simp only [Result.andThen_ok, Sem.run_pure]

/-- What is kept when a function is left. -/
theorem fin_sound {k : Nat} {Q : List Ent → VO → Prop} {o : VO} (hst : St w M G H) (h : fin k Q H o) (hm : m ≤ k) : ∃ G', ExtM m w M G w M G' ∧ St w M G' (H.take k) ∧ Q (H.take k) o ∧ ∀ (v : AV) (x : Value), v.bd k = true → VR w M G v x → VR w M G' v x := by
  obtain ⟨h1, h2, h3, h4⟩ := h
  have hl : (H.take k).length = k := by rw [List.length_take]; omega
  have key := wk_sound' (n := 0) (m := m) (σ := id) (af := ⟨[], []⟩) (H' := H.take k) (af' := ⟨[], []⟩) (a := { tmps := #[], defers := [] }) hst ⟨rfl, rfl, fun t => trivial⟩
    ⟨fun i _ => rfl, by omega, fun i j _ _ e => e, fun j e he => .inr ⟨by rw [hl]; exact (List.all_eq_true.1 h2) e (List.mem_of_getElem? he), by
      rw [Ent.ren_id]
      have hj := (List.getElem?_eq_some_iff.1 he).1
      rw [List.getElem?_take_of_lt (by omega)] at he
      exact he⟩, fun j hj => by simp only [id]; omega, fun t => .inl rfl, fun d hd => (by cases hd), rfl⟩
  refine ⟨_, key.1, key.2.1, h4, fun v x hb hv => ?_⟩
  have hv' : VR w M G (v.ren id) x := by rw [AV.ren_id]; exact hv
  refine VR_un (σ := id) (k := k) (fun i g hi hg => ?_) v x hb hv'
  have hi' : i < (H.take k).length := by omega
  have hq := wkG_get id G (H.take k) 0 i _ (List.getElem?_eq_getElem hi')
  rw [Nat.zero_add] at hq
  have hg' : G.getD (id i) {} = g := by rw [List.getD_eq_getElem?_getD, hg]; rfl
  rw [hg'] at hq
  refine ⟨_, hq, ?_⟩
  split <;> rfl

theorem zipArgs_get : ∀ {args : List AV} {i t : Nat}, get (zipArgs i args) t = if i ≤ t then args.getD (t - i) .junk else .junk
  | [], i, t => by simp [zipArgs, get]
  | a :: r, i, t => by
    simp only [zipArgs, get]
    by_cases h : i = t
    · subst h; simp
    · rw [if_neg h, zipArgs_get]
      by_cases h2 : i ≤ t
      · rw [if_pos (by omega), if_pos h2]
        obtain ⟨d, rfl⟩ : ∃ d, t = i + 1 + d := ⟨t - i - 1, by omega⟩
        rw [show i + 1 + d - (i + 1) = d by omega, show i + 1 + d - i = d + 1 by omega]
        rfl
      · rw [if_neg (by omega), if_neg h2]
end

section
variable {P : Program} {f : FuncId} {n k : Nat} {ic : IC} {rs : List (RV × Co)} {H : List Ent} {args : List AV} {Q : List Ent → VO → Prop}

theorem cFun_spec (h : cFun P f = some (n, ic, rs)) : ∃ fn c, P.funcs[f]? = some fn ∧ fn.body = some c ∧ fn.ntmps = n ∧ cCode P n c = some ic ∧ cRes P fn.results.toList fn.resultTypes.toList = some rs ∧ okF P f = true := by
  unfold cFun at h
  split at h
  · rename_i fn hf
    split at h
    · cases h
    · rename_i hname
      split at h
      · rename_i c hb
        split at h
        · rename_i ic' rs' h1 h2
          simp only [Option.some.injEq, Prod.mk.injEq] at h
          obtain ⟨rfl, rfl, rfl⟩ := h
          exact ⟨fn, c, hf, hb, rfl, h1, h2, by simp [okF, hf, hb]; simpa using hname⟩
        · cases h
      · cases h
  · cases h

theorem retvs_dl {tm : List (Nat × AV)} {l l' : List AD} {H : List Ent} : ∀ {rs : List (RV × Co)}, retvs ⟨tm, l⟩ H rs = retvs ⟨tm, l'⟩ H rs
  | [] => rfl
  | (.t t, c) :: r => by simp only [retvs, retvs_dl (rs := r) (l := l) (l' := l')]
  | (.c g n a, c) :: r => by simp only [retvs, retvs_dl (rs := r) (l := l) (l' := l')]

/-- A function does what its code does. -/
theorem vcalls_of (hc : cFun P f = some (n, ic, rs)) (k : Nat) (hk : H.length ≤ k) (hl : args.length ≤ n) (h : VI P none n H.length ic (retq k rs Q) ⟨zipArgs 0 args, []⟩ H) : VCalls P f H args Q := by
  obtain ⟨fn, c, hf, hb, hn, hcode, hres, hok⟩ := cFun_spec hc
  subst hn
  refine ⟨hok, fun w M G vs hst hv => callsIn_of_wp_marks hf hb trivial ?_⟩
  have hvl := VRs_length hv
  have hrel : RelF w M G fn.ntmps ⟨zipArgs 0 args, []⟩ { tmps := vs.toArray ++ Array.replicate (fn.ntmps - vs.toArray.size) undef, defers := [] } := by
    refine ⟨by simp; omega, rfl, fun t => ?_⟩
    simp only [zipArgs_get, Nat.zero_le, if_true, Nat.sub_zero]
    by_cases ht : t < args.length
    · obtain ⟨x, hx, hr⟩ := VRs_getD hv ht
      have : (vs.toArray ++ Array.replicate (fn.ntmps - vs.toArray.size) undef).getD t undef = x := by
        rw [Array.getD_eq_getD_getElem?, Array.getElem?_append_left (by simp; omega)]
        simp [hx]
      rw [this]; exact hr
    · have : args.getD t .junk = .junk := by rw [List.getD_eq_getElem?_getD, List.getElem?_eq_none (by omega)]; rfl
      rw [this]; trivial
  have hwp := h c hcode w M G _ hst hrel
  have hfw : fw none = Fence.wide := rfl
  rw [hfw] at hwp
  refine wpIn_mono hwp fun e a' w' hp => ?_
  obtain ⟨ve, af', M', G', H', h1, h2, h3, h4, h5⟩ := hp
  have hlen : G.length = H.length := hst.len
  -- the marks
  have leave : ∀ (l : List AD) (ds : List Deferred) (H₁ : List Ent) (G₁ : List Gh) (w₁ : World) (mode : FrameMode) (K : List Ent → Prop), mode ≠ .run → DR w₁ M' G₁ l ds → ExtM H.length w M G w₁ M' G₁ → St w₁ M' G₁ H₁ → (∀ t, VR w₁ M' G₁ (get af'.tm t) (a'.tmps.getD t undef)) → dlq l H₁ K →
      (∀ (H₂ : List Ent) (G₂ : List Gh) (w₂ : World), K H₂ → ExtM H.length w M G w₂ M' G₂ → Ext w₁ M' G₁ w₂ M' G₂ → St w₂ M' G₂ H₂ → (∀ t, VR w₂ M' G₂ (get af'.tm t) (a'.tmps.getD t undef)) → LeavesIn Fence.wide 0 P fn a'.tmps (Out Q w M G) [] mode w₂) →
      LeavesInM Fence.wide 0 P fn a'.tmps (Out Q w M G) ds mode w₁ := by
    intro l
    induction l with
    | nil =>
      intro ds H₁ G₁ w₁ mode K hmo hd he hs hv hq hK
      simp only [DR] at hd; subst hd
      exact hK H₁ G₁ w₁ hq he (Ext.refl _ _ _) hs hv
    | cons d l ih =>
      intro ds H₁ G₁ w₁ mode K hmo hd he hs hv hq hK
      cases d with
      | dfr f args => exact hq.elim
      | mark i =>
        obtain ⟨g, r, rfl, hg, hd⟩ := hd
        simp only [dlq] at hq
        split at hq
        · rename_i d as hen
          obtain ⟨G₂, q1, q2, q3⟩ := lp_kill hs hg (ent_lp hen)
          refine ⟨hmo, .inl ⟨g.cap, _, rfl, run_takeDeferred q1, ?_⟩⟩
          exact ih r _ G₂ _ mode K hmo (DR_mono q3.core q3.le hd) (he.trans q3.toM) q2 (fun t => (hv t).ext q3) hq fun H₂ G₃ w₂ r1 r2 r3 r4 r5 => hK H₂ G₃ w₂ r1 r2 (q3.trans r3) r4 r5
        · exact hq.elim
  have done : ∀ (hq : dlq af'.dl H' (retk k rs Q af')), LeavesInM Fence.wide 0 P fn a'.tmps (Out Q w M G) a'.defers .returning w' := fun hq => by
    refine leave af'.dl a'.defers H' G' w' .returning _ (by simp) h5.defers h3 h4 h5.rd hq fun H₂ G₂ w₂ q1 q2 q3 q4 q5 => ?_
    obtain ⟨us, x, s1, s2, s3⟩ := run_results (n := fn.ntmps) (af := ⟨af'.tm, []⟩) (a := { tmps := a'.tmps, defers := [] }) q4 ⟨h5.size, rfl, q5⟩ hres (by rw [retvs_dl (l' := af'.dl)]; exact q1)
    obtain ⟨G'', r1, r2, r3, r4⟩ := fin_sound (m := H.length) q4 s1 hk
    exact ⟨x, s3, M', G'', _, _, r3, (hlen ▸ (q2.trans r1)).toExt, r2, r4 _ _ s1.2.2.1 s2⟩
  cases ve with
  | nrm => have h2 : e = .normal := h2; subst h2; exact done h1
  | ret => have h2 : e = .ret := h2; subst h2; exact done h1
  | pan v =>
    obtain ⟨x, rfl, hx⟩ := h2
    refine leave af'.dl a'.defers H' G' w' _ _ (by simp) h5.defers h3 h4 h5.rd h1 fun H₂ G₂ w₂ q1 q2 q3 q4 q5 => ?_
    obtain ⟨G'', r1, r2, r3, r4⟩ := fin_sound (m := H.length) q4 q1 hk
    exact ⟨M', G'', _, _, x, r3, (hlen ▸ (q2.trans r1)).toExt, r2, r4 _ _ q1.2.2.1 (hx.ext q3), rfl⟩
  | ext i => exact h1.elim
  | gto l => exact h1.elim

/-- A function that reads nothing but its arguments, and hands back a value. -/
def VPure (P : Program) (f : FuncId) (args : List AV) (r : AV) : Prop :=
  VCalls P f [] args (fun H' o => H' = [] ∧ o = .val r) ∧ AV.bds 0 args = true ∧ r.bd 0 = true

theorem bds_append (k : Nat) (l r : List AV) : AV.bds k (l ++ r) = (AV.bds k l && AV.bds k r) := by
  rw [bds_eq, bds_eq, bds_eq, List.all_append]

theorem vpure_of {r : AV} (hc : cFun P f = some (n, ic, rs)) (hl : args.length ≤ n) (ha : AV.bds 0 args = true) (hr : r.bd 0 = true) (h : AV.wfs args → VI P none n 0 ic (retq 0 rs fun H' o => o = .val r) ⟨zipArgs 0 args, []⟩ []) : VPure P f args r := by
  obtain ⟨_, _, _, _, _, _, _, hok⟩ := cFun_spec hc
  exact ⟨vcalls_wf hok fun hw => vcalls_of hc 0 (Nat.le_refl _) hl ((h hw).mono fun e af H hq => by
    cases e <;> simp only [retq] at hq ⊢
    · exact dlq_mono (fun H => by simp only [retk, fin, List.take_zero, true_and]; exact id) hq
    · exact dlq_mono (fun H => by simp only [retk, fin, List.take_zero, true_and]; exact id) hq
    · exact dlq_mono (fun H => by simp only [pank, fin, List.take_zero, true_and]; exact id) hq), ha, hr⟩

theorem vcalls_pure {r : AV} (h : VPure P f args r) (hq : r.wf → Q H (.val r)) : VCalls P f H args Q := by
  have h1 := h.1.mono' (Q' := fun H' o => (H' = [] ∧ o = .val r) ∧ r.wf) fun H' o hw ho => ⟨ho, by have := ho.2; subst this; exact hw⟩
  have := vcalls_sel (H := H) [] (Q' := Q) h1 List.nodup_nil (by simp) rfl (by simp) h.2.1 (fun H1 o ho => by
    obtain ⟨⟨rfl, rfl⟩, hwf⟩ := ho
    simp only [setAll, List.take_nil, List.map_nil, List.drop_nil, List.append_nil, VO.ren]
    rw [ren_same (m := 0) (fun i hi => by omega) r h.2.2]
    exact hq hwf)
  rwa [rens_same (m := 0) (fun i hi => by omega) args h.2.1] at this

theorem vapp_pure {r : AV} {first caps : List AV} (h : VPure P f (first ++ args ++ caps) r) (hq : r.wf → Q H (.val r)) : VApp P H (.fn f first caps) args Q := vapp_fn (vcalls_pure h hq)
theorem vapp_pure0 {r : AV} (h : VPure P f args r) (hq : r.wf → Q H (.val r)) : VApp P H (.fn f [] []) args Q := vapp_pure (by simpa using h) hq
end
end Go.V
